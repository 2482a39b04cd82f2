/-
 Descriptions of the functions that the claim reaches: arguments, results, states of loops. No conditions.
-/
import Derived.Test.YtnagpmhaddfgmaaGreatB37
import Derived.Test.YtnagpmhaddfgmaaGreatProg
namespace Go.Proofs.YtnagpmhaddfgmaaGreat
open Go.Proofs.Tryz
open List (length getD set)
open Int (toNat)
open IntKind (wrap)
abbrev yi : Ty := .int .i64
abbrev y1 : Ty := .slice yi
abbrev y2 : Ty := .slice y1
abbrev y3 : Ty := .slice y2
abbrev Y1 : Type := List Int
abbrev Y2 : Type := List Y1
abbrev Y3 : Type := List Y2
abbrev yh (l : List Nat) (s : Sh) : Keep := { acts := [], S := { slots := l, sh := s, obs := [] } }
abbrev ys (l : List Nat) (s : Sh) : SSh := { slots := l, sh := s, obs := [] }
abbrev yd (A : Sh) (I : List (Nat × OSh)) (L : List LP) (R : Type) (F : A.I × OL I → Option R) (e : R → List AV × List (Nat × Ob)) : FD := { A := A, ins := I, lend := L, R := R, F := F, emb := e }
abbrev yr (r : List ResultVar) (s : Sh) : RetK := { acts := [], res := r, sh := s, obs := [], pins := [] }
abbrev yj : List Sh → Sh
  | [] => .nil
  | a :: l => .cons a (yj l)
abbrev Za : List UInt8 := ([0, 1, 2, 2, 3, 3, 3, 3, 4, 4, 4, 4, 4, 4, 4, 4, 5, 5, 5, 5, 5, 5, 5, 5, 5, 5, 5, 5, 5, 5, 5, 5, 6, 6, 6, 6, 6, 6, 6, 6, 6, 6, 6, 6, 6, 6, 6, 6, 6, 6, 6, 6, 6, 6, 6, 6, 6, 6, 6, 6, 6, 6, 6, 6, 7, 7, 7, 7, 7, 7, 7, 7, 7, 7, 7, 7, 7, 7, 7, 7, 7, 7, 7, 7, 7, 7, 7, 7, 7, 7, 7, 7, 7, 7, 7, 7, 7, 7, 7, 7, 7, 7, 7, 7, 7, 7, 7, 7, 7, 7, 7, 7, 7, 7, 7, 7, 7, 7, 7, 7, 7, 7, 7, 7, 7, 7, 7, 7, 8, 8, 8, 8, 8, 8, 8, 8, 8, 8, 8, 8, 8, 8, 8, 8, 8, 8, 8, 8, 8, 8, 8, 8, 8, 8, 8, 8, 8, 8, 8, 8, 8, 8, 8, 8, 8, 8, 8, 8, 8, 8, 8, 8, 8, 8, 8, 8, 8, 8, 8, 8, 8, 8, 8, 8, 8, 8, 8, 8, 8, 8, 8, 8, 8, 8, 8, 8, 8, 8, 8, 8, 8, 8, 8, 8, 8, 8, 8, 8, 8, 8, 8, 8, 8, 8, 8, 8, 8, 8, 8, 8, 8, 8, 8, 8, 8, 8, 8, 8, 8, 8, 8, 8, 8, 8, 8, 8, 8, 8, 8, 8, 8, 8, 8, 8, 8, 8, 8, 8, 8, 8, 8, 8, 8, 8, 8, 8] : List UInt8)
abbrev Zb : Nat := IntKind.bits .u64
abbrev Yc : Type := (List Nat) × Y2
abbrev Yd : Type := HL [y1, y1] → Option (Int)
abbrev Zf : Sh := yj [.dat y1, .dat y2]
abbrev Yg : Type := Int × Int
abbrev Zh : Sh := yj [.dat yi]
abbrev Yi : Type := Y1 × (Y2 × Int)
abbrev Yj : Type := Int × Y1
abbrev Yk : Type := Y1 × (Y2 × (Y1 × Yg))
abbrev Zl : Sh := yj [.box 64 0, .box 65 0, .box 66 0]
abbrev Zm : Sh := yj [.dat .bool]
abbrev Zo : Sh := yj [.arr 64, .dat yi, .clo [y1, y1] yi, .dat yi, .dat yi]
abbrev Zp : Nat × OSh := (64, .perm 24 3 yi)
abbrev Yq : Type := HL [yi, yi] → Option (Int)
abbrev Yr : Type := Int × (Y1 × Int)
abbrev Yt : Type := Int × (Bool × Yc)
abbrev Zu : Nat × OSh := (1, .cells Zf)
abbrev Zv : Nat × OSh := (3, .cells (yj [.arr 577, .arr 580]))
abbrev Yw : Type := Int × (Y1 × Yg)
abbrev Yx : Type := Y1 × (Y2 × Yj)
abbrev Zy : Sh := yj [.nilsl, .nilsl]
abbrev Yz : Type := Int × Yc
abbrev Zaa : Nat × OSh := (64, .arr 3 yi)
abbrev Yab : Type := Y1 × (Int × Yj)
abbrev Yac : Type := Y1 × (Int × (Int × Y2))
abbrev Zad : Nat × OSh := (7, .cells (yj [.dat yi, .dat y1, .dat yi]))
abbrev Yae : Type := Int × (Bool)
abbrev Zaf : Ty := .slice (.int .u8)
abbrev Zag : Nat × OSh := (66, .cells (yj [.nilsl]))
abbrev Yah : Type := Int × (Int × (Bool × (Bool × Yc)))
abbrev Yai : Type := Y1 × Y2
abbrev Zaj : Nat × OSh := (64, .cells Zf)
abbrev Zak : Nat × OSh := (65, .cells Zh)
abbrev Zal : Nat × OSh := (5, .cells (yj [.arr 833, .arr 834]))
abbrev Yam : Type := HL [yi] → Option (Bool)
abbrev Yan : Type := Bool × Y1
abbrev Zao : Sh := yj [.dat .bool, .dat .bool]
abbrev Yap : Type := Y1 × (Y2 × Y1)
abbrev Zaq : Nat × OSh := (580, .rows 24 3 yi)
abbrev Zar : Sh := yj [.dat (.int .u64)]
abbrev Yas : Type := Int × Yg
abbrev Zat : Sh := yj [.dat y1, .dat yi, .dat yi]
abbrev Zau : Sh := yj [.dat y1, .box 2 0, .arr 11, .arr 12, .arr 13, .dat yi]
abbrev Zav : Nat × OSh := (0, .arr 3 yi)
abbrev Zaw : Sh := yj [.box 1 0, .dat y1, .dat y1, .dat y2, .dat yi, .dat yi, .dat y2, .dat yi, .dat yi, .dat yi, .dat yi]
abbrev Zax : Nat × OSh := (4, .cells (yj [.arr 900340, .arr 902341]))
abbrev Zay : Nat × OSh := (7, .cells (yj [.arr 900370, .arr 902371]))
abbrev Zaz : Nat × OSh := (6, .cells (yj [.dat yi, .nilsl, .dat yi]))
abbrev Zba : Nat × OSh := (577, .arr 3 yi)
abbrev Ybb : Type := Bool × (Bool)
abbrev Ybc : Type := (Yd) × Yz
abbrev Zbd : Sh := yj [.box 1 0, .dat (.int .u64), .arr 902705, .dat yi, .dat yi, .dat yi, .dat yi, .dat yi]
abbrev Ze : Nat × OSh := (64, .cells (yj [.dat Zaf, .dat yi, .dat (.int .u64)]))
abbrev Yn : Type := Int × Yai
abbrev Ybe : Type := Y1 × (Int × (Y2 × (Int × (Int × (Y2 × (Int × (Int × (Int × (Int × Yn)))))))))
noncomputable def tabl : List (Nat × TD) := [(3, .sc yi), (4, .sc .bool), (5, .sc (.int .u8)), (9, .sc .str), (22, .sl 5 (.int .u8) 1), (24, .sl 3 yi 8), (25, .sl 24 y1 24), (27, .st (.pair y1 y2) [(24, y1), (25, y2)]), (108, .sc (.int .u64)), (110, .st (.pair Zaf (.pair yi (.int .u64))) [(22, Zaf), (3, yi), (108, (.int .u64))]), (145, .sc (.int .u64)), (159, .st (.pair yi (.pair y1 yi)) [(3, yi), (24, y1), (3, yi)]), (220, .sc (.int .u64))]
noncomputable def tt : Nat → TD := fun i => match look tabl i with
 | some d => d
 | none => .no
noncomputable def waul (a1_ : Y1) : Tr (Bool) :=
 .l (decide ((65536 : Int) < ((length a1_ : Nat) : Int)))
noncomputable def waum (a1_ : Y1) : Option (Bool) := (waul a1_).ev
noncomputable def wbxz : RetK := yr [.tmp 2] Zm
noncomputable def wbdu : FD := yd (yj [.dat Zaf]) [] [] Bool (fun x => waum x.1.1) (fun r => ([.dat .bool r], []))
noncomputable def wbdv (a1_ : Y1) (a2_ : Int) (a3_ : Int) : Tr Yw :=
 .t (decide (a2_ < ((length a1_ : Nat) : Int)))
 (.g (inR a2_ (length a1_)) <|
 .t (decide ((wrap .i64 (a2_ + 1)) ≤ ((length a1_ : Nat) : Int)))
 (.l ((wrap .i64 (getD a1_ (toNat a2_) 0)), (a1_, ((wrap .i64 (a2_ + 1)), (wrap .u64 ((wrap .u64 ((wrap .u64 (a3_ * (6364136223846793005 : Int))) + (wrap .u64 (wrap .i64 (getD a1_ (toNat a2_) 0))))) + 462197))))))
 (.g (decide ((0 : Int) ≤ (40 : Int))) <|
 .l ((wrap .i64 (wrap .u64 (BitVec.toNat ((BitVec.ofInt Zb (Int.fdiv (wrap .u64 ((wrap .u64 ((wrap .u64 (a3_ * (6364136223846793005 : Int))) + (wrap .u64 (wrap .i64 (getD a1_ (toNat a2_) 0))))) + 462197)) (2 ^ (min (toNat 40) Zb)))) &&& (BitVec.ofInt Zb (255 : Int)))))), (a1_, ((wrap .i64 (a2_ + 1)), (wrap .u64 ((wrap .u64 ((wrap .u64 (a3_ * (6364136223846793005 : Int))) + (wrap .u64 (wrap .i64 (getD a1_ (toNat a2_) 0))))) + 462197)))))))
 (.t (decide ((wrap .i64 (a2_ + 1)) ≤ ((length a1_ : Nat) : Int)))
 (.l ((0 : Int), (a1_, ((wrap .i64 (a2_ + 1)), (wrap .u64 ((wrap .u64 ((wrap .u64 (a3_ * (6364136223846793005 : Int))) + (wrap .u64 (0 : Int)))) + 462197))))))
 (.g (decide ((0 : Int) ≤ (40 : Int))) <|
 .l ((wrap .i64 (wrap .u64 (BitVec.toNat ((BitVec.ofInt Zb (Int.fdiv (wrap .u64 ((wrap .u64 ((wrap .u64 (a3_ * (6364136223846793005 : Int))) + (wrap .u64 (0 : Int)))) + 462197)) (2 ^ (min (toNat 40) Zb)))) &&& (BitVec.ofInt Zb (255 : Int)))))), (a1_, ((wrap .i64 (a2_ + 1)), (wrap .u64 ((wrap .u64 ((wrap .u64 (a3_ * (6364136223846793005 : Int))) + (wrap .u64 (0 : Int)))) + 462197)))))))
noncomputable def wald (a1_ : Y1) (a2_ : Int) (a3_ : Int) : Option Yw := (wbdv a1_ a2_ a3_).ev
noncomputable def wbya : RetK := { acts := [], res := [.tmp 2], sh := Zh, obs := [Ze], pins := [(0, 0, 64)] }
noncomputable def wbdw : FD := yd (yj [.box 64 0]) [Ze] [.arg 0] Yw (fun x => wald x.2.1.1 x.2.1.2.1 x.2.1.2.2.1) (fun r => ([.dat yi r.1], [(64, .cells [.dat Zaf r.2.1, .dat yi r.2.2.1, .dat (.int .u64) r.2.2.2])]))
noncomputable def wbdx (a4_ : Int) (a1_ : Y1) (a2_ : Int) (a3_ : Int) : Tr Yw :=
 .t (decide (a4_ ≤ 1))
 (.l ((0 : Int), (a1_, (a2_, a3_))))
 (.c Yw (wald a1_ a2_ a3_) fun r1_ =>
 .t (decide (200 < a4_))
 (.c Yw (wald r1_.2.1 r1_.2.2.1 r1_.2.2.2) fun r2_ =>
 .g (!decide (a4_ = 0)) <|
 .l ((Int.tmod (wrap .i64 ((wrap .i64 (r1_.1 * (256 : Int))) + r2_.1)) a4_), (r2_.2.1, (r2_.2.2.1, r2_.2.2.2))))
 (.g (!decide (a4_ = 0)) <|
 .l ((Int.tmod r1_.1 a4_), (r1_.2.1, (r1_.2.2.1, r1_.2.2.2)))))
noncomputable def whg (a4_ : Int) (a1_ : Y1) (a2_ : Int) (a3_ : Int) : Option Yw := (wbdx a4_ a1_ a2_ a3_).ev
noncomputable def wbyb : RetK := { acts := [], res := [.tmp 4], sh := Zh, obs := [Ze], pins := [(0, 0, 64)] }
noncomputable def wsb : FD := yd (yj [.box 64 0, .dat yi]) [Ze] [.arg 0] Yw (fun x => whg x.1.2.1 x.2.1.1 x.2.1.2.1 x.2.1.2.2.1) (fun r => ([.dat yi r.1], [(64, .cells [.dat Zaf r.2.1, .dat yi r.2.2.1, .dat (.int .u64) r.2.2.2])]))
noncomputable def wbdy (a4_ : Y1) (a1_ : Y1) (a2_ : Int) (a3_ : Int) : Tr Yw :=
 .c Yw (whg ((length a4_ : Nat) : Int) a1_ a2_ a3_) fun r1_ =>
 .g (inR r1_.1 (length a4_)) <|
 .l ((getD a4_ (toNat r1_.1) 0), (r1_.2.1, (r1_.2.2.1, r1_.2.2.2)))
noncomputable def wpw (a4_ : Y1) (a1_ : Y1) (a2_ : Int) (a3_ : Int) : Option Yw := (wbdy a4_ a1_ a2_ a3_).ev
noncomputable def wbyc : RetK := { acts := [], res := [.tmp 4], sh := Zh, obs := [Ze], pins := [(0, 0, 64)] }
noncomputable def wale : FD := yd (yj [.box 64 0, .dat y1]) [Ze] [.arg 0] Yw (fun x => wpw x.1.2.1 x.2.1.1 x.2.1.2.1 x.2.1.2.2.1) (fun r => ([.dat yi r.1], [(64, .cells [.dat Zaf r.2.1, .dat yi r.2.2.1, .dat (.int .u64) r.2.2.2])]))
noncomputable def wkf (k : Int × (Int × (Int × Yj))) (v : Int × Yab) : Tr ((Int × Yab) ⊕ Yab) :=
 .t (decide (v.1 < k.2.1))
 (.t (decide (v.1 < k.1))
 (.c Yw (whg k.2.2.2.1 v.2.1 v.2.2.1 v.2.2.2.1) fun r14_ =>
 .g (decide ((length v.2.2.2.2 + length ([r14_.1] : Y1)) * 8 ≤ 140737488355328)) <|
 .l (.inl ((wrap .i64 (v.1 + 1)), (r14_.2.1, (r14_.2.2.1, (r14_.2.2.2, (v.2.2.2.2 ++ ([r14_.1] : Y1))))))))
 (.l (.inr (v.2.1, (v.2.2.1, (v.2.2.2.1, v.2.2.2.2))))))
 (.l (.inr (v.2.1, (v.2.2.1, (v.2.2.2.1, v.2.2.2.2)))))
noncomputable def walf (k : Int × (Int × (Int × Yj))) (v : Int × Yab) : Option Yab := iter (fun v => (wkf k v).ev) v
noncomputable def waci : LD := ⟨{ acts := [.ownB 4 0 900340 3 yi, .ownB 7 0 900370 3 yi], S := { slots := [0, 1, 4, 5, 6, 7, 8, 9], sh := (yj [.box 64 0, .dat yi, .box 4 0, .dat yi, .dat yi, .box 7 0, .dat yi, .dat yi]), obs := [Ze, (4, .cells (yj [.arr 900340, .nilsl])), (7, .cells (yj [.arr 900370, .nilsl])), (900340, .arr 3 yi), (900370, .arr 3 yi)] } }, [(0, { acts := [], S := { slots := [0, 1, 4, 6, 7, 8], sh := (yj [.box 64 0, .dat yi, .box 4 0, .dat yi, .box 7 0, .dat yi]), obs := [Ze, (4, .cells (yj [.arr 900340, .nilsl])), (7, .cells (yj [.arr 900370, .nilsl])), (900340, .arr 3 yi), (900370, .arr 3 yi)] } })], (yh [] .nil), Int × (Int × (Int × Yj)), Int × Yab, Y1 × (Int × Yj), fun k v => (((), (k.1, ((), (k.2.1, (k.2.2.1, ((), (k.2.2.2.1, (v.1, ())))))))), ((v.2.1, (v.2.2.1, (v.2.2.2.1, ()))), (((), ((), ())), (((), ((), ())), (k.2.2.2.2, (v.2.2.2.2, ())))))), fun t => (t.1.2.1, (t.1.2.2.2.1, (t.1.2.2.2.2.1, (t.1.2.2.2.2.2.2.1, t.2.2.2.2.1)))), fun t => (t.1.2.2.2.2.2.2.2.1, (t.2.1.1, (t.2.1.2.1, (t.2.1.2.2.1, t.2.2.2.2.2.1)))), wkf, fun k r => .l (.exit 0 (wav ({ slots := [0, 1, 4, 6, 7, 8], sh := (yj [.box 64 0, .dat yi, .box 4 0, .dat yi, .box 7 0, .dat yi]), obs := [Ze, (4, .cells (yj [.arr 900340, .nilsl])), (7, .cells (yj [.arr 900370, .nilsl])), (900340, .arr 3 yi), (900370, .arr 3 yi)] }) (((), (k.1, ((), (k.2.2.1, ((), (k.2.2.2.1, ())))))), ((r.1, (r.2.1, (r.2.2.1, ()))), (((), ((), ())), (((), ((), ())), (k.2.2.2.2, (r.2.2.2, ()))))))))⟩
noncomputable def wnv (k : Int × (Int × (Int × (Int × (Y1 × (Y2 × Yai)))))) (v : Int × Yab) : Tr ((Int × Yab) ⊕ Yab) :=
 .t (decide (v.1 < ((length k.2.2.2.2.2.2.1 : Nat) : Int)))
 (.c Yw (whg k.2.2.1 v.2.1 v.2.2.1 v.2.2.2.1) fun r48_ =>
 .g (decide ((length v.2.2.2.2 + length ([r48_.1] : Y1)) * 8 ≤ 140737488355328)) <|
 .l (.inl ((wrap .i64 (v.1 + 1)), (r48_.2.1, (r48_.2.2.1, (r48_.2.2.2, (v.2.2.2.2 ++ ([r48_.1] : Y1))))))))
 (.l (.inr (v.2.1, (v.2.2.1, (v.2.2.2.1, v.2.2.2.2)))))
noncomputable def walg (k : Int × (Int × (Int × (Int × (Y1 × (Y2 × Yai)))))) (v : Int × Yab) : Option Yab := iter (fun v => (wnv k v).ev) v
noncomputable def wacj : LD := ⟨{ acts := [], S := { slots := [0, 1, 4, 6, 7, 8, 10, 11, 12], sh := (yj [.box 64 0, .dat yi, .box 4 0, .dat yi, .box 7 0, .dat yi, .dat yi, .arr 51, .dat yi]), obs := [Ze, Zax, Zay, (51, .arr 3 yi), (900340, .arr 3 yi), (902341, .rows 24 3 yi), (900370, .arr 3 yi), (902371, .rows 24 3 yi)] } }, [(4, { acts := [], S := { slots := [0, 1, 4, 6, 7, 8, 10, 11], sh := (yj [.box 64 0, .dat yi, .box 4 0, .dat yi, .box 7 0, .dat yi, .dat yi, .arr 51]), obs := [Ze, Zax, Zay, (51, .arr 3 yi), (900340, .arr 3 yi), (902341, .rows 24 3 yi), (900370, .arr 3 yi), (902371, .rows 24 3 yi)] } })], (yh [] .nil), Int × (Int × (Int × (Int × (Y1 × (Y2 × Yai))))), Int × Yab, Y1 × (Int × Yj), fun k v => (((), (k.1, ((), (k.2.1, ((), (k.2.2.1, (k.2.2.2.1, ((), (v.1, ()))))))))), ((v.2.1, (v.2.2.1, (v.2.2.2.1, ()))), (((), ((), ())), (((), ((), ())), (v.2.2.2.2, (k.2.2.2.2.1, (k.2.2.2.2.2.1, (k.2.2.2.2.2.2.1, (k.2.2.2.2.2.2.2, ()))))))))), fun t => (t.1.2.1, (t.1.2.2.2.1, (t.1.2.2.2.2.2.1, (t.1.2.2.2.2.2.2.1, (t.2.2.2.2.2.1, (t.2.2.2.2.2.2.1, (t.2.2.2.2.2.2.2.1, t.2.2.2.2.2.2.2.2.1))))))), fun t => (t.1.2.2.2.2.2.2.2.2.1, (t.2.1.1, (t.2.1.2.1, (t.2.1.2.2.1, t.2.2.2.2.1)))), wnv, fun k r => .l (.exit 4 (wav ({ slots := [0, 1, 4, 6, 7, 8, 10, 11], sh := (yj [.box 64 0, .dat yi, .box 4 0, .dat yi, .box 7 0, .dat yi, .dat yi, .arr 51]), obs := [Ze, Zax, Zay, (51, .arr 3 yi), (900340, .arr 3 yi), (902341, .rows 24 3 yi), (900370, .arr 3 yi), (902371, .rows 24 3 yi)] }) (((), (k.1, ((), (k.2.1, ((), (k.2.2.1, (k.2.2.2.1, ((), ())))))))), ((r.1, (r.2.1, (r.2.2.1, ()))), (((), ((), ())), (((), ((), ())), (r.2.2.2, (k.2.2.2.2.1, (k.2.2.2.2.2.1, (k.2.2.2.2.2.2.1, (k.2.2.2.2.2.2.2, ())))))))))))⟩
noncomputable def wkg (k : Int × (Int × (Int × Yap))) (v : Int × Yac) : Tr ((Int × Yac) ⊕ Yac) :=
 .t (decide (v.1 < k.2.1))
 (.t (decide (v.1 < k.1))
 (.c Yab (walg (k.1, (k.2.1, (k.2.2.1, (v.1, (k.2.2.2.1, (k.2.2.2.2.1, (k.2.2.2.2.2, v.2.2.2.2))))))) ((0 : Int), (v.2.1, (v.2.2.1, (v.2.2.2.1, ([] : Y1)))))) fun r61_ =>
 .g (decide ((length v.2.2.2.2 + 1) * 24 ≤ 140737488355328)) <|
 .l (.inl ((wrap .i64 (v.1 + 1)), (r61_.1, (r61_.2.1, (r61_.2.2.1, (set (v.2.2.2.2 ++ [[]]) (length v.2.2.2.2) r61_.2.2.2)))))))
 (.l (.inr (v.2.1, (v.2.2.1, (v.2.2.2.1, v.2.2.2.2))))))
 (.l (.inr (v.2.1, (v.2.2.1, (v.2.2.2.1, v.2.2.2.2)))))
noncomputable def walh (k : Int × (Int × (Int × Yap))) (v : Int × Yac) : Option Yac := iter (fun v => (wkg k v).ev) v
noncomputable def wack : LD := ⟨{ acts := [.ownRB 4 1 902341 24 3 yi, .ownRB 7 1 902371 24 3 yi], S := { slots := [0, 1, 4, 6, 7, 8, 10], sh := (yj [.box 64 0, .dat yi, .box 4 0, .dat yi, .box 7 0, .dat yi, .dat yi]), obs := [Ze, Zax, Zay, (900340, .arr 3 yi), (902341, .rows 24 3 yi), (900370, .arr 3 yi), (902371, .rows 24 3 yi)] } }, [(2, { acts := [], S := { slots := [0, 4, 7], sh := (yj [.box 64 0, .box 4 0, .box 7 0]), obs := [Ze, Zax, Zay, (900340, .arr 3 yi), (902341, .rows 24 3 yi), (900370, .arr 3 yi), (902371, .rows 24 3 yi)] } })], (yh [] .nil), Int × (Int × (Int × Yap)), Int × Yac, Y1 × (Int × (Int × Y2)), fun k v => (((), (k.1, ((), (k.2.1, ((), (k.2.2.1, (v.1, ()))))))), ((v.2.1, (v.2.2.1, (v.2.2.2.1, ()))), (((), ((), ())), (((), ((), ())), (k.2.2.2.1, (k.2.2.2.2.1, (k.2.2.2.2.2, (v.2.2.2.2, ())))))))), fun t => (t.1.2.1, (t.1.2.2.2.1, (t.1.2.2.2.2.2.1, (t.2.2.2.2.1, (t.2.2.2.2.2.1, t.2.2.2.2.2.2.1))))), fun t => (t.1.2.2.2.2.2.2.1, (t.2.1.1, (t.2.1.2.1, (t.2.1.2.2.1, t.2.2.2.2.2.2.2.1)))), wkg, fun k r => .l (.exit 2 (wav ({ slots := [0, 4, 7], sh := (yj [.box 64 0, .box 4 0, .box 7 0]), obs := [Ze, Zax, Zay, (900340, .arr 3 yi), (902341, .rows 24 3 yi), (900370, .arr 3 yi), (902371, .rows 24 3 yi)] }) (((), ((), ((), ()))), ((r.1, (r.2.1, (r.2.2.1, ()))), (((), ((), ())), (((), ((), ())), (k.2.2.2.1, (k.2.2.2.2.1, (k.2.2.2.2.2, (r.2.2.2, ()))))))))))⟩
noncomputable def wbdz (a4_ : Int) (a1_ : Y1) (a2_ : Int) (a3_ : Int) : Tr Yk :=
 .c Yw (wpw ([(3 : Int), (4 : Int), (2 : Int), (5 : Int), (1 : Int), (6 : Int), (7 : Int)] : Y1) a1_ a2_ a3_) fun r1_ =>
 .c Yw (wpw ([(4 : Int), (3 : Int), (5 : Int), (2 : Int), (6 : Int), (7 : Int), (1 : Int), (0 : Int)] : Y1) r1_.2.1 r1_.2.2.1 r1_.2.2.2) fun r2_ =>
 .c Yw (wpw ([(10 : Int), (10 : Int), (20 : Int), (4 : Int)] : Y1) r2_.2.1 r2_.2.2.1 r2_.2.2.2) fun r3_ =>
 .c Yab (walf (a4_, (r1_.1, (r2_.1, (r3_.1, ([] : Y1))))) ((0 : Int), (r3_.2.1, (r3_.2.2.1, (r3_.2.2.2, ([] : Y1)))))) fun r23_ =>
 .c Yac (walh (a4_, (r2_.1, (r3_.1, (([] : Y1), (([] : List Y1), r23_.2.2.2))))) ((0 : Int), (r23_.1, (r23_.2.1, (r23_.2.2.1, ([] : List Y1)))))) fun r69_ =>
 .l (r23_.2.2.2, (r69_.2.2.2, (r69_.1, (r69_.2.1, r69_.2.2.1))))
noncomputable def wyw (a4_ : Int) (a1_ : Y1) (a2_ : Int) (a3_ : Int) : Option Yk := (wbdz a4_ a1_ a2_ a3_).ev
noncomputable def wbyd : RetK := { acts := [.ren 900370 1, .ren 902371 2], res := [.cell 4 27], sh := (yj [.agg (yj [.arr 1, .arr 2])]), obs := [(1, .arr 3 yi), (2, .rows 24 3 yi), Ze], pins := [(0, 0, 64)] }
noncomputable def wali : FD := yd (yj [.box 64 0, .dat yi]) [Ze] [.arg 0] Yk (fun x => wyw x.1.2.1 x.2.1.1 x.2.1.2.1 x.2.1.2.2.1) (fun r => ([.agg [.arr 1, .arr 2]], [(1, .arr 3 yi r.1), (2, .rows 24 3 yi r.2.1 none), (64, .cells [.dat Zaf r.2.2.1, .dat yi r.2.2.2.1, .dat (.int .u64) r.2.2.2.2])]))
noncomputable def walj : Nat → Nat → List Nat := fun r i => match look [(1, [(2, [14]), (5, [17])]), (2, [(3, [21])])] r with
 | some l => (look l i).getD []
 | none => []
noncomputable def walm : Env := wac [(83, wale), (120, wsb)]
noncomputable def waln : List (Nat × LD) := [(0, waci), (4, wacj), (2, wack)]
noncomputable def walo : Code := (f176.body).getD .skip
noncomputable def waun (a1_ : Y1) : Tr Y1 :=
 .g (decide ((length ([] : Y1) + length a1_) * 8 ≤ 140737488355328)) <|
 .l (([] : Y1) ++ a1_)
noncomputable def wkh (a1_ : Y1) : Option Y1 := (waun a1_).ev
noncomputable def wbye : RetK := { acts := [.ren 3 0], res := [.tmp 2], sh := (yj [.arr 0]), obs := [Zav], pins := [] }
noncomputable def wyx : FD := yd (yj [.dat y1]) [] [] Y1 (fun x => wkh x.1.1) (fun r => ([.arr 0], [(0, .arr 3 yi r)]))
noncomputable def wnw (k : Y1 × (Int × Yn)) (v : List Y1) : Tr (Y2 ⊕ Y2) :=
 .t (decide (((length v : Nat) : Int) < (8 : Int)))
 (.c Y1 (wkh k.2.2.2.1) fun r11_ =>
 .g (decide ((length v + 1) * 24 ≤ 140737488355328)) <|
 .l (.inl (set (v ++ [[]]) (length v) r11_)))
 (.l (.inr v))
noncomputable def walp (k : Y1 × (Int × Yn)) (v : List Y1) : Option Y2 := iter (fun v => (wnw k v).ev) v
noncomputable def wacl : LD := ⟨{ acts := [.ownRB 4 1 901341 24 3 yi], S := { slots := [0, 3, 4], sh := (yj [.box 64 0, .box 3 0, .box 4 0]), obs := [Ze, (3, .cells (yj [.arr 65, .arr 66])), (4, .cells (yj [.nilsl, .arr 901341])), (65, .arr 3 yi), (66, .rows 24 3 yi), (901341, .rows 24 3 yi)] } }, [(1, { acts := [], S := { slots := [0, 3, 4], sh := (yj [.box 64 0, .box 3 0, .box 4 0]), obs := [Ze, (3, .cells (yj [.arr 65, .arr 66])), (4, .cells (yj [.nilsl, .arr 901341])), (65, .arr 3 yi), (66, .rows 24 3 yi), (901341, .rows 24 3 yi)] } })], (yh [] .nil), Y1 × (Int × Yn), List Y1, List Y1, fun k v => (((), ((), ((), ()))), ((k.1, (k.2.1, (k.2.2.1, ()))), (((), ((), ())), (((), ((), ())), (k.2.2.2.1, (v, (k.2.2.2.2, ()))))))), fun t => (t.2.1.1, (t.2.1.2.1, (t.2.1.2.2.1, (t.2.2.2.2.1, t.2.2.2.2.2.2.1)))), fun t => t.2.2.2.2.2.1, wnw, fun k r => .l (.exit 1 (wav ({ slots := [0, 3, 4], sh := (yj [.box 64 0, .box 3 0, .box 4 0]), obs := [Ze, (3, .cells (yj [.arr 65, .arr 66])), (4, .cells (yj [.nilsl, .arr 901341])), (65, .arr 3 yi), (66, .rows 24 3 yi), (901341, .rows 24 3 yi)] }) (((), ((), ((), ()))), ((k.1, (k.2.1, (k.2.2.1, ()))), (((), ((), ())), (((), ((), ())), (k.2.2.2.1, (r, (k.2.2.2.2, ())))))))))⟩
noncomputable def wbea (a1_ : Y1) (a2_ : Int) (a3_ : Int) (a4_ : Y1) (a5_ : List Y1) : Tr Yk :=
 .t (((length a4_ : Nat) : Int) == (0 : Int))
 (.l (a4_, (a5_, (a1_, (a2_, a3_)))))
 (.c Yw (whg ((length a4_ : Nat) : Int) a1_ a2_ a3_) fun r1_ =>
 .c Yw (whg (60 : Int) r1_.2.1 r1_.2.2.1 r1_.2.2.2) fun r2_ =>
 .t (r2_.1 == 0)
 (.c Yw (wpw ([(-1 : Int), (99 : Int), (100 : Int), (4611686018427387904 : Int)] : Y1) r2_.2.1 r2_.2.2.1 r2_.2.2.2) fun r3_ =>
 .g (inR r1_.1 (length a4_)) <|
 .g (decide ((toNat r1_.1) < length a4_)) <|
 .l ((set a4_ (toNat r1_.1) r3_.1), (a5_, (r3_.2.1, (r3_.2.2.1, r3_.2.2.2)))))
 (.t (r2_.1 == 1)
 (.t (decide ((0 : Int) < ((length a5_ : Nat) : Int)))
 (.g (inR 0 (length a5_)) <|
 .g (decide ((toNat 0) < length a5_)) <|
 .c Yw (wpw ([(-1 : Int), (99 : Int), (100 : Int), (-9223372036854775808 : Int)] : Y1) r2_.2.1 r2_.2.2.1 r2_.2.2.2) fun r4_ =>
 .g (inR r1_.1 (length (getD a5_ (toNat 0) ([] : Y1)))) <|
 .g (decide ((toNat r1_.1) < length (getD a5_ (toNat 0) ([] : Y1)))) <|
 .l (a4_, ((set a5_ (toNat 0) (set (getD a5_ (toNat 0) ([] : Y1)) (toNat r1_.1) r4_.1)), (r4_.2.1, (r4_.2.2.1, r4_.2.2.2)))))
 (.l (a4_, (a5_, (r2_.2.1, (r2_.2.2.1, r2_.2.2.2))))))
 (.t (r2_.1 == 2)
 (.g (decide ((length a4_ + length ([(1 : Int)] : Y1)) * 8 ≤ 140737488355328)) <|
 .l ((a4_ ++ ([(1 : Int)] : Y1)), (a5_, (r2_.2.1, (r2_.2.2.1, r2_.2.2.2)))))
 (.t (r2_.1 == 3)
 (.c Y2 (walp (r2_.2.1, (r2_.2.2.1, (r2_.2.2.2, (a4_, ([] : List Y1))))) a5_) fun r18_ =>
 .l (a4_, (r18_, (r2_.2.1, (r2_.2.2.1, r2_.2.2.2)))))
 (.t (r2_.1 == 4)
 (.l (([] : Y1), (([] : List Y1), (r2_.2.1, (r2_.2.2.1, r2_.2.2.2)))))
 (.l (a4_, (a5_, (r2_.2.1, (r2_.2.2.1, r2_.2.2.2))))))))))
noncomputable def wahc (a1_ : Y1) (a2_ : Int) (a3_ : Int) (a4_ : Y1) (a5_ : List Y1) : Option Yk := (wbea a1_ a2_ a3_ a4_ a5_).ev
noncomputable def wbyf : RetK := { acts := [.ownB 4 0 1 3 yi, .ownRB 4 1 2 24 3 yi, .ren 65 1, .ren 66 2], res := [.cell 4 27], sh := (yj [.agg (yj [.arr 1, .arr 2])]), obs := [(1, .arr 3 yi), (2, .rows 24 3 yi), Ze], pins := [(0, 0, 64)], gone := [65, 66] }
noncomputable def wbeb : FD := yd (yj [.box 64 0, .agg (yj [.arr 65, .arr 66])]) [Ze, (65, .arr 3 yi), (66, .rows 24 3 yi)] [.arg 0, .comp 1 0, .comp 1 1] Yk (fun x => wahc x.2.1.1 x.2.1.2.1 x.2.1.2.2.1 x.2.2.1 x.2.2.2.1) (fun r => ([.agg [.arr 1, .arr 2]], [(1, .arr 3 yi r.1), (2, .rows 24 3 yi r.2.1 none), (64, .cells [.dat Zaf r.2.2.1, .dat yi r.2.2.2.1, .dat (.int .u64) r.2.2.2.2]), (65, .spent), (66, .spent)]))
noncomputable def wbec : Nat → Nat → List Nat := fun r i => match look [(6, [(0, [60000004])]), (9, [(0, [60000006])])] r with
 | some l => (look l i).getD []
 | none => []
noncomputable def wbed : Env := wac [(120, wsb), (83, wale), (173, wyx)]
noncomputable def wbee : List (Nat × LD) := [(1, wacl)]
noncomputable def wbef : Code := (f175.body).getD .skip
noncomputable def wbeg (a1_ : Int) (a2_ : Int) : Tr (Int) :=
 .t (decide (a2_ < a1_))
 (.l a1_)
 (.l a2_)
noncomputable def wauo (a1_ : Int) (a2_ : Int) : Option (Int) := (wbeg a1_ a2_).ev
noncomputable def wbyg : RetK := yr [.tmp 4] Zh
noncomputable def wbeh : FD := yd (yj [.dat yi, .dat yi]) [] [] Int (fun x => wauo x.1.1 x.1.2.1) (fun r => ([.dat yi r], []))
noncomputable def wnx (k : Y1 × Y2) (v : Int × Yab) : Tr ((Int × Yab) ⊕ Yab) :=
 .t (decide (v.1 < ((length k.1 : Nat) : Int)))
 (.c Yw (whg (20 : Int) v.2.1 v.2.2.1 v.2.2.2.1) fun r9_ =>
 .g (decide ((length v.2.2.2.2 + length ([r9_.1] : Y1)) * 8 ≤ 140737488355328)) <|
 .l (.inl ((wrap .i64 (v.1 + 1)), (r9_.2.1, (r9_.2.2.1, (r9_.2.2.2, (v.2.2.2.2 ++ ([r9_.1] : Y1))))))))
 (.l (.inr (v.2.1, (v.2.2.1, (v.2.2.2.1, v.2.2.2.2)))))
noncomputable def walq (k : Y1 × Y2) (v : Int × Yab) : Option Yab := iter (fun v => (wnx k v).ev) v
noncomputable def wacm : LD := ⟨{ acts := [], S := { slots := [0, 4, 5, 6, 7], sh := (yj [.box 64 0, .box 4 0, .box 5 0, .arr 14, .dat yi]), obs := [Ze, (4, .cells Zy), Zal, (14, .arr 3 yi), (833, .arr 3 yi), (834, .rows 24 3 yi)] } }, [(0, { acts := [], S := { slots := [0, 4, 5, 6], sh := (yj [.box 64 0, .box 4 0, .box 5 0, .arr 14]), obs := [Ze, (4, .cells Zy), Zal, (14, .arr 3 yi), (833, .arr 3 yi), (834, .rows 24 3 yi)] } })], (yh [] .nil), Y1 × Y2, Int × Yab, Y1 × (Int × Yj), fun k v => (((), ((), ((), ((), (v.1, ()))))), ((v.2.1, (v.2.2.1, (v.2.2.2.1, ()))), (((), ((), ())), (((), ((), ())), (v.2.2.2.2, (k.1, (k.2, ()))))))), fun t => (t.2.2.2.2.2.1, t.2.2.2.2.2.2.1), fun t => (t.1.2.2.2.2.1, (t.2.1.1, (t.2.1.2.1, (t.2.1.2.2.1, t.2.2.2.2.1)))), wnx, fun k r => .l (.exit 0 (wav ({ slots := [0, 4, 5, 6], sh := (yj [.box 64 0, .box 4 0, .box 5 0, .arr 14]), obs := [Ze, (4, .cells Zy), Zal, (14, .arr 3 yi), (833, .arr 3 yi), (834, .rows 24 3 yi)] }) (((), ((), ((), ((), ())))), ((r.1, (r.2.1, (r.2.2.1, ()))), (((), ((), ())), (((), ((), ())), (r.2.2.2, (k.1, (k.2, ())))))))))⟩
noncomputable def wny (k : Int × (Int × (Y1 × (Int × (Int × (Y1 × Y1)))))) (v : Int × Y2) : Tr ((Int × Y2) ⊕ Y2) :=
 .t (decide (v.1 < ((length k.2.2.2.2.2.2 : Nat) : Int)))
 (.g (inR k.1 (length v.2)) <|
 .g (decide ((toNat k.1) < length v.2)) <|
 .g (inR v.1 (length k.2.2.2.2.2.1)) <|
 .g (decide ((toNat v.1) < length k.2.2.2.2.2.1)) <|
 .g (inR v.1 (length k.2.2.2.2.2.1)) <|
 .g (decide ((toNat v.1) < length k.2.2.2.2.2.1)) <|
 .c (Int) (wauo (wrap .i64 (k.2.1 - (getD k.2.2.2.2.2.1 (toNat v.1) 0))) (wrap .i64 ((getD k.2.2.2.2.2.1 (toNat v.1) 0) - k.2.1))) fun r34_ =>
 .g (inR v.1 (length (getD v.2 (toNat k.1) ([] : Y1)))) <|
 .g (decide ((toNat v.1) < length (getD v.2 (toNat k.1) ([] : Y1)))) <|
 .l (.inl ((wrap .i64 (v.1 + 1)), (set v.2 (toNat k.1) (set (getD v.2 (toNat k.1) ([] : Y1)) (toNat v.1) r34_)))))
 (.l (.inr v.2))
noncomputable def walr (k : Int × (Int × (Y1 × (Int × (Int × (Y1 × Y1)))))) (v : Int × Y2) : Option Y2 := iter (fun v => (wny k v).ev) v
noncomputable def wacn : LD := ⟨{ acts := [], S := { slots := [0, 4, 5, 6, 8, 9, 10], sh := (yj [.box 64 0, .box 4 0, .box 5 0, .arr 14, .dat yi, .dat yi, .dat yi]), obs := [Ze, (4, .cells Zy), Zal, (14, .arr 3 yi), (833, .arr 3 yi), (834, .rows 24 3 yi)] } }, [(4, { acts := [], S := { slots := [0, 4, 5, 6, 8], sh := (yj [.box 64 0, .box 4 0, .box 5 0, .arr 14, .dat yi]), obs := [Ze, (4, .cells Zy), Zal, (14, .arr 3 yi), (833, .arr 3 yi), (834, .rows 24 3 yi)] } })], (yh [] .nil), Int × (Int × (Y1 × (Int × (Int × (Y1 × Y1))))), Int × Y2, List Y1, fun k v => (((), ((), ((), ((), (k.1, (k.2.1, (v.1, ()))))))), ((k.2.2.1, (k.2.2.2.1, (k.2.2.2.2.1, ()))), (((), ((), ())), (((), ((), ())), (k.2.2.2.2.2.1, (k.2.2.2.2.2.2, (v.2, ()))))))), fun t => (t.1.2.2.2.2.1, (t.1.2.2.2.2.2.1, (t.2.1.1, (t.2.1.2.1, (t.2.1.2.2.1, (t.2.2.2.2.1, t.2.2.2.2.2.1)))))), fun t => (t.1.2.2.2.2.2.2.1, t.2.2.2.2.2.2.1), wny, fun k r => .l (.exit 4 (wav ({ slots := [0, 4, 5, 6, 8], sh := (yj [.box 64 0, .box 4 0, .box 5 0, .arr 14, .dat yi]), obs := [Ze, (4, .cells Zy), Zal, (14, .arr 3 yi), (833, .arr 3 yi), (834, .rows 24 3 yi)] }) (((), ((), ((), ((), (k.1, ()))))), ((k.2.2.1, (k.2.2.2.1, (k.2.2.2.2.1, ()))), (((), ((), ())), (((), ((), ())), (k.2.2.2.2.2.1, (k.2.2.2.2.2.2, (r, ())))))))))⟩
noncomputable def wnz (k : Y1 × Y1) (v : Int × Yac) : Tr ((Int × Yac) ⊕ Yac) :=
 .t (decide (v.1 < ((length v.2.2.2.2 : Nat) : Int)))
 (.c Yw (whg (20 : Int) v.2.1 v.2.2.1 v.2.2.2.1) fun r24_ =>
 .c Y2 (walr (v.1, (r24_.1, (r24_.2.1, (r24_.2.2.1, (r24_.2.2.2, (k.1, k.2)))))) ((0 : Int), v.2.2.2.2)) fun r42_ =>
 .l (.inl ((wrap .i64 (v.1 + 1)), (r24_.2.1, (r24_.2.2.1, (r24_.2.2.2, r42_))))))
 (.l (.inr (v.2.1, (v.2.2.1, (v.2.2.2.1, v.2.2.2.2)))))
noncomputable def wals (k : Y1 × Y1) (v : Int × Yac) : Option Yac := iter (fun v => (wnz k v).ev) v
noncomputable def waco : LD := ⟨{ acts := [], S := { slots := [0, 4, 5, 6, 8], sh := (yj [.box 64 0, .box 4 0, .box 5 0, .arr 14, .dat yi]), obs := [Ze, (4, .cells Zy), Zal, (14, .arr 3 yi), (833, .arr 3 yi), (834, .rows 24 3 yi)] } }, [(2, { acts := [], S := { slots := [0, 4, 5], sh := (yj [.box 64 0, .box 4 0, .box 5 0]), obs := [Ze, (4, .cells Zy), Zal, (833, .arr 3 yi), (834, .rows 24 3 yi)] } })], (yh [] .nil), Y1 × Y1, Int × Yac, Y1 × (Int × (Int × Y2)), fun k v => (((), ((), ((), ((), (v.1, ()))))), ((v.2.1, (v.2.2.1, (v.2.2.2.1, ()))), (((), ((), ())), (((), ((), ())), (k.1, (k.2, (v.2.2.2.2, ()))))))), fun t => (t.2.2.2.2.1, t.2.2.2.2.2.1), fun t => (t.1.2.2.2.2.1, (t.2.1.1, (t.2.1.2.1, (t.2.1.2.2.1, t.2.2.2.2.2.2.1)))), wnz, fun k r => .l (.exit 2 (wav ({ slots := [0, 4, 5], sh := (yj [.box 64 0, .box 4 0, .box 5 0]), obs := [Ze, (4, .cells Zy), Zal, (833, .arr 3 yi), (834, .rows 24 3 yi)] }) (((), ((), ((), ()))), ((r.1, (r.2.1, (r.2.2.1, ()))), (((), ((), ())), (((), ((), ())), (k.2, (r.2.2.2, ()))))))))⟩
noncomputable def wbei (a4_ : Int) (a1_ : Y1) (a2_ : Int) (a3_ : Int) : Tr Yk :=
 .c Yk (wyw a4_ a1_ a2_ a3_) fun r1_ =>
 .c Yab (walq (r1_.1, r1_.2.1) ((0 : Int), (r1_.2.2.1, (r1_.2.2.2.1, (r1_.2.2.2.2, ([] : Y1)))))) fun r16_ =>
 .c Yac (wals (r16_.2.2.2, r1_.1) ((0 : Int), (r16_.1, (r16_.2.1, (r16_.2.2.1, r1_.2.1))))) fun r48_ =>
 .l (r1_.1, (r48_.2.2.2, (r48_.1, (r48_.2.1, r48_.2.2.1))))
noncomputable def walt (a4_ : Int) (a1_ : Y1) (a2_ : Int) (a3_ : Int) : Option Yk := (wbei a4_ a1_ a2_ a3_).ev
noncomputable def wbyh : RetK := { acts := [.ren 833 1, .ren 834 2], res := [.cell 4 27], sh := (yj [.agg (yj [.arr 1, .arr 2])]), obs := [(1, .arr 3 yi), (2, .rows 24 3 yi), Ze], pins := [(0, 0, 64)] }
noncomputable def waup : FD := yd (yj [.box 64 0, .dat yi]) [Ze] [.arg 0] Yk (fun x => walt x.1.2.1 x.2.1.1 x.2.1.2.1 x.2.1.2.2.1) (fun r => ([.agg [.arr 1, .arr 2]], [(1, .arr 3 yi r.1), (2, .rows 24 3 yi r.2.1 none), (64, .cells [.dat Zaf r.2.2.1, .dat yi r.2.2.2.1, .dat (.int .u64) r.2.2.2.2])]))
noncomputable def walu : Env := wac [(176, wali), (120, wsb), (197, wbeh)]
noncomputable def walv : List (Nat × LD) := [(0, wacm), (4, wacn), (2, waco)]
noncomputable def walw : Code := (f177.body).getD .skip
noncomputable def woa (k : Y1 × (Y2 × (Y2 × Y1))) (v : Int × Y2) : Tr ((Int × Y2) ⊕ Y2) :=
 .t (decide (v.1 < ((length k.2.1 : Nat) : Int)))
 (.g (inR v.1 (length k.2.1)) <|
 .c Y1 (wkh (getD k.2.1 (toNat v.1) ([] : Y1))) fun r8_ =>
 .g (decide ((length v.2 + 1) * 24 ≤ 140737488355328)) <|
 .l (.inl ((wrap .i64 (v.1 + 1)), (set (v.2 ++ [[]]) (length v.2) r8_))))
 (.l (.inr v.2))
noncomputable def walx (k : Y1 × (Y2 × (Y2 × Y1))) (v : Int × Y2) : Option Y2 := iter (fun v => (woa k v).ev) v
noncomputable def wacp : LD := ⟨{ acts := [.ownRB 2 1 900321 24 3 yi, .ownRB 3 1 900331 24 3 yi], S := { slots := [1, 2, 3, 4], sh := (yj [.box 1 0, .box 2 0, .box 3 0, .dat yi]), obs := [Zu, (2, .cells (yj [.nilsl, .arr 900321])), (3, .cells (yj [.arr 448, .arr 900331])), (900321, .rows 24 3 yi), (448, .arr 3 yi), (900331, .rows 24 3 yi)] } }, [(0, { acts := [], S := { slots := [2, 3], sh := (yj [.box 2 0, .box 3 0]), obs := [(2, .cells (yj [.nilsl, .arr 900321])), (3, .cells (yj [.arr 448, .arr 900331])), (900321, .rows 24 3 yi), (448, .arr 3 yi), (900331, .rows 24 3 yi)] } })], (yh [] .nil), Y1 × (Y2 × (Y2 × Y1)), Int × Y2, List Y1, fun k v => (((), ((), ((), (v.1, ())))), ((k.1, (k.2.1, ())), (((), ((), ())), (((), ((), ())), (k.2.2.1, (k.2.2.2, (v.2, ()))))))), fun t => (t.2.1.1, (t.2.1.2.1, (t.2.2.2.2.1, t.2.2.2.2.2.1))), fun t => (t.1.2.2.2.1, t.2.2.2.2.2.2.1), woa, fun k r => .l (.exit 0 (wav ({ slots := [2, 3], sh := (yj [.box 2 0, .box 3 0]), obs := [(2, .cells (yj [.nilsl, .arr 900321])), (3, .cells (yj [.arr 448, .arr 900331])), (900321, .rows 24 3 yi), (448, .arr 3 yi), (900331, .rows 24 3 yi)] }) (((), ((), ())), (((), ((), ())), (((), ((), ())), (k.2.2.1, (k.2.2.2, (r, ()))))))))⟩
noncomputable def wbej (a1_ : Y1) (a2_ : List Y1) : Tr Yai :=
 .c Y1 (wkh a1_) fun r1_ =>
 .c Y2 (walx (a1_, (a2_, (([] : List Y1), r1_))) ((0 : Int), ([] : List Y1))) fun r12_ =>
 .l (r1_, r12_)
noncomputable def wauq (a1_ : Y1) (a2_ : List Y1) : Option Yai := (wbej a1_ a2_).ev
noncomputable def wbyi : RetK := { acts := [.ren 448 1, .ren 900331 4], res := [.cell 2 27], sh := (yj [.agg (yj [.arr 1, .arr 4])]), obs := [(1, .arr 3 yi), (4, .rows 24 3 yi)], pins := [] }
noncomputable def wbek : FD := yd (yj [.agg Zf]) [] [] Yai (fun x => wauq x.1.1.1 x.1.1.2.1) (fun r => ([.agg [.arr 1, .arr 4]], [(1, .arr 3 yi r.1), (4, .rows 24 3 yi r.2 none)]))
noncomputable def wbel : Env := wac [(173, wyx)]
noncomputable def wbem : List (Nat × LD) := [(0, wacp)]
noncomputable def wben : Code := (f228.body).getD .skip
noncomputable def wki (k : Int × (Int × Yn)) (v : Int) : Tr ((Int) ⊕ ((Unit) ⊕ (Unit))) :=
 .t (decide (v < ((length k.2.2.2.1 : Nat) : Int)))
 (.g (inR k.1 (length k.2.2.2.2)) <|
 .g (inR k.2.2.1 (length (getD k.2.2.2.2 (toNat k.1) ([] : Y1)))) <|
 .g (inR k.1 (length k.2.2.2.2)) <|
 .g (inR v (length (getD k.2.2.2.2 (toNat k.1) ([] : Y1)))) <|
 .g (inR k.2.1 (length k.2.2.2.2)) <|
 .g (inR v (length (getD k.2.2.2.2 (toNat k.2.1) ([] : Y1)))) <|
 .g (inR k.2.1 (length k.2.2.2.2)) <|
 .g (inR k.2.2.1 (length (getD k.2.2.2.2 (toNat k.2.1) ([] : Y1)))) <|
 .t (decide ((wrap .i64 ((wrap .i64 ((getD (getD k.2.2.2.2 (toNat k.1) ([] : Y1)) (toNat v) (0 : Int)) + (getD (getD k.2.2.2.2 (toNat k.2.1) ([] : Y1)) (toNat v) (0 : Int)))) + (getD (getD k.2.2.2.2 (toNat k.2.1) ([] : Y1)) (toNat k.2.2.1) (0 : Int)))) < (getD (getD k.2.2.2.2 (toNat k.1) ([] : Y1)) (toNat k.2.2.1) (0 : Int))))
 (.l (.inr (.inr ())))
 (.l (.inl (wrap .i64 (v + 1)))))
 (.l (.inr (.inl ())))
noncomputable def waly (k : Int × (Int × Yn)) (v : Int) : Option ((Unit) ⊕ (Unit)) := iter (fun v => (wki k v).ev) v
noncomputable def wacq : LD := ⟨{ acts := [], S := { slots := [1, 3, 4, 5, 6], sh := (yj [.box 1 0, .dat yi, .dat yi, .dat yi, .dat yi]), obs := [Zu] } }, [(6, { acts := [], S := { slots := [1, 3, 4, 5], sh := (yj [.box 1 0, .dat yi, .dat yi, .dat yi]), obs := [Zu] } })], (yh [2] Zm), Int × (Int × Yn), Int, (Unit) ⊕ (Unit), fun k v => (((), (k.1, (k.2.1, (k.2.2.1, (v, ()))))), ((k.2.2.2.1, (k.2.2.2.2, ())), ())), fun t => (t.1.2.1, (t.1.2.2.1, (t.1.2.2.2.1, (t.2.1.1, t.2.1.2.1)))), fun t => t.1.2.2.2.2.1, wki, fun k r => .s (Unit) (Unit) r (fun _ => .l (.exit 6 (wav ({ slots := [1, 3, 4, 5], sh := (yj [.box 1 0, .dat yi, .dat yi, .dat yi]), obs := [Zu] }) (((), (k.1, (k.2.1, (k.2.2.1, ())))), ((k.2.2.2.1, (k.2.2.2.2, ())), ()))))) (fun _ => .l (.ret (wav ((ys [2] Zm)) ((false, ()), ()))))⟩
noncomputable def wkj (k : Int × Yn) (v : Int) : Tr ((Int) ⊕ ((Unit) ⊕ (Unit))) :=
 .t (decide (v < ((length k.2.2.1 : Nat) : Int)))
 (.c ((Unit) ⊕ (Unit)) (waly (k.1, (k.2.1, (v, (k.2.2.1, k.2.2.2)))) (0 : Int)) fun r25_ =>
 .s (Unit) (Unit) r25_
 (fun _ => .l (.inl (wrap .i64 (v + 1))))
 (fun _ => .l (.inr (.inr ()))))
 (.l (.inr (.inl ())))
noncomputable def walz (k : Int × Yn) (v : Int) : Option ((Unit) ⊕ (Unit)) := iter (fun v => (wkj k v).ev) v
noncomputable def wacr : LD := ⟨{ acts := [], S := { slots := [1, 3, 4, 5], sh := (yj [.box 1 0, .dat yi, .dat yi, .dat yi]), obs := [Zu] } }, [(4, { acts := [], S := { slots := [1, 3, 4], sh := (yj [.box 1 0, .dat yi, .dat yi]), obs := [Zu] } })], (yh [2] Zm), Int × Yn, Int, (Unit) ⊕ (Unit), fun k v => (((), (k.1, (k.2.1, (v, ())))), ((k.2.2.1, (k.2.2.2, ())), ())), fun t => (t.1.2.1, (t.1.2.2.1, (t.2.1.1, t.2.1.2.1))), fun t => t.1.2.2.2.1, wkj, fun k r => .s (Unit) (Unit) r (fun _ => .l (.exit 4 (wav ({ slots := [1, 3, 4], sh := (yj [.box 1 0, .dat yi, .dat yi]), obs := [Zu] }) (((), (k.1, (k.2.1, ()))), ((k.2.2.1, (k.2.2.2, ())), ()))))) (fun _ => .l (.ret (wav ((ys [2] Zm)) ((false, ()), ()))))⟩
noncomputable def wkk (k : Int × Yai) (v : Int) : Tr ((Int) ⊕ ((Unit) ⊕ (Unit))) :=
 .t (decide (v < ((length k.2.2 : Nat) : Int)))
 (.c ((Unit) ⊕ (Unit)) (walz (k.1, (v, (k.2.1, k.2.2))) (0 : Int)) fun r33_ =>
 .s (Unit) (Unit) r33_
 (fun _ => .l (.inl (wrap .i64 (v + 1))))
 (fun _ => .l (.inr (.inr ()))))
 (.l (.inr (.inl ())))
noncomputable def wama (k : Int × Yai) (v : Int) : Option ((Unit) ⊕ (Unit)) := iter (fun v => (wkk k v).ev) v
noncomputable def wacs : LD := ⟨{ acts := [], S := { slots := [1, 3, 4], sh := (yj [.box 1 0, .dat yi, .dat yi]), obs := [Zu] } }, [(2, { acts := [], S := { slots := [1, 3], sh := (yj [.box 1 0, .dat yi]), obs := [Zu] } })], (yh [2] Zm), Int × Yai, Int, (Unit) ⊕ (Unit), fun k v => (((), (k.1, (v, ()))), ((k.2.1, (k.2.2, ())), ())), fun t => (t.1.2.1, (t.2.1.1, t.2.1.2.1)), fun t => t.1.2.2.1, wkk, fun k r => .s (Unit) (Unit) r (fun _ => .l (.exit 2 (wav ({ slots := [1, 3], sh := (yj [.box 1 0, .dat yi]), obs := [Zu] }) (((), (k.1, ())), ((k.2.1, (k.2.2, ())), ()))))) (fun _ => .l (.ret (wav ((ys [2] Zm)) ((false, ()), ()))))⟩
noncomputable def wkl (k : Y1 × Y2) (v : Int) : Tr ((Int) ⊕ ((Unit) ⊕ (Unit))) :=
 .t (decide (v < ((length k.2 : Nat) : Int)))
 (.c ((Unit) ⊕ (Unit)) (wama (v, (k.1, k.2)) (0 : Int)) fun r40_ =>
 .s (Unit) (Unit) r40_
 (fun _ => .l (.inl (wrap .i64 (v + 1))))
 (fun _ => .l (.inr (.inr ()))))
 (.l (.inr (.inl ())))
noncomputable def wamb (k : Y1 × Y2) (v : Int) : Option ((Unit) ⊕ (Unit)) := iter (fun v => (wkl k v).ev) v
noncomputable def wact : LD := ⟨{ acts := [], S := { slots := [1, 3], sh := (yj [.box 1 0, .dat yi]), obs := [Zu] } }, [(0, (yh [] .nil))], (yh [2] Zm), Y1 × Y2, Int, (Unit) ⊕ (Unit), fun k v => (((), (v, ())), ((k.1, (k.2, ())), ())), fun t => (t.2.1.1, t.2.1.2.1), fun t => t.1.2.1, wkl, fun _ r => .s (Unit) (Unit) r (fun _ => .l (.exit 0 (wav ((ys [] .nil)) ((), ())))) (fun _ => .l (.ret (wav ((ys [2] Zm)) ((false, ()), ()))))⟩
noncomputable def wbeo (a1_ : Y1) (a2_ : List Y1) : Tr (Bool) :=
 .c ((Unit) ⊕ (Unit)) (wamb (a1_, a2_) (0 : Int)) fun r44_ =>
 .s (Unit) (Unit) r44_
 (fun _ => .l true)
 (fun _ => .l false)
noncomputable def waur (a1_ : Y1) (a2_ : List Y1) : Option (Bool) := (wbeo a1_ a2_).ev
noncomputable def wbyj : RetK := yr [.tmp 2] Zm
noncomputable def wbep : FD := yd (yj [.agg Zf]) [] [] Bool (fun x => waur x.1.1.1 x.1.1.2.1) (fun r => ([.dat .bool r], []))
noncomputable def wahd : Env := wac []
noncomputable def wahe : List (Nat × LD) := [(6, wacq), (4, wacr), (2, wacs), (0, wact)]
noncomputable def wahf : Code := (f229.body).getD .skip
noncomputable def wbeq (a1_ : Int) (a2_ : Int) : Tr (Int) :=
 .t (decide (a1_ < a2_))
 (.l a1_)
 (.l a2_)
noncomputable def wamc (a1_ : Int) (a2_ : Int) : Option (Int) := (wbeq a1_ a2_).ev
noncomputable def wbyk : RetK := yr [.tmp 4] Zh
noncomputable def waus : FD := yd (yj [.dat yi, .dat yi]) [] [] Int (fun x => wamc x.1.1 x.1.2.1) (fun r => ([.dat yi r], []))
noncomputable def wsc (k : Int × (Int × Yj)) (v : Int × Y2) : Tr ((Int × Y2) ⊕ Y2) :=
 .t (decide (v.1 < ((length k.2.2.2 : Nat) : Int)))
 (.g (inR k.1 (length v.2)) <|
 .g (decide ((toNat k.1) < length v.2)) <|
 .g (inR k.1 (length v.2)) <|
 .g (decide ((toNat k.1) < length v.2)) <|
 .g (inR k.2.2.1 (length (getD v.2 (toNat k.1) ([] : Y1)))) <|
 .g (decide ((toNat k.2.2.1) < length (getD v.2 (toNat k.1) ([] : Y1)))) <|
 .g (inR k.1 (length v.2)) <|
 .g (decide ((toNat k.1) < length v.2)) <|
 .g (inR v.1 (length (getD v.2 (toNat k.1) ([] : Y1)))) <|
 .g (decide ((toNat v.1) < length (getD v.2 (toNat k.1) ([] : Y1)))) <|
 .g (inR k.2.1 (length v.2)) <|
 .g (decide ((toNat k.2.1) < length v.2)) <|
 .g (inR v.1 (length (getD v.2 (toNat k.2.1) ([] : Y1)))) <|
 .g (decide ((toNat v.1) < length (getD v.2 (toNat k.2.1) ([] : Y1)))) <|
 .g (inR k.2.1 (length v.2)) <|
 .g (decide ((toNat k.2.1) < length v.2)) <|
 .g (inR k.2.2.1 (length (getD v.2 (toNat k.2.1) ([] : Y1)))) <|
 .g (decide ((toNat k.2.2.1) < length (getD v.2 (toNat k.2.1) ([] : Y1)))) <|
 .c (Int) (wamc (getD (getD v.2 (toNat k.1) ([] : Y1)) (toNat k.2.2.1) (0 : Int)) (wrap .i64 ((wrap .i64 ((getD (getD v.2 (toNat k.1) ([] : Y1)) (toNat v.1) (0 : Int)) + (getD (getD v.2 (toNat k.2.1) ([] : Y1)) (toNat v.1) (0 : Int)))) + (getD (getD v.2 (toNat k.2.1) ([] : Y1)) (toNat k.2.2.1) (0 : Int))))) fun r23_ =>
 .g (inR k.2.2.1 (length (getD v.2 (toNat k.1) ([] : Y1)))) <|
 .g (decide ((toNat k.2.2.1) < length (getD v.2 (toNat k.1) ([] : Y1)))) <|
 .l (.inl ((wrap .i64 (v.1 + 1)), (set v.2 (toNat k.1) (set (getD v.2 (toNat k.1) ([] : Y1)) (toNat k.2.2.1) r23_)))))
 (.l (.inr v.2))
noncomputable def wamd (k : Int × (Int × Yj)) (v : Int × Y2) : Option Y2 := iter (fun v => (wsc k v).ev) v
noncomputable def wacu : LD := ⟨{ acts := [], S := { slots := [2, 3, 4, 5, 6, 7], sh := (yj [.box 2 0, .box 3 0, .dat yi, .dat yi, .dat yi, .dat yi]), obs := [(2, .cells Zy), Zv, Zba, Zaq] } }, [(8, { acts := [], S := { slots := [2, 3, 4, 5, 6], sh := (yj [.box 2 0, .box 3 0, .dat yi, .dat yi, .dat yi]), obs := [(2, .cells Zy), Zv, Zba, Zaq] } })], (yh [] .nil), Int × (Int × Yj), Int × Y2, List Y1, fun k v => (((), ((), (k.1, (k.2.1, (k.2.2.1, (v.1, ())))))), (((), ((), ())), (((), ((), ())), (k.2.2.2, (v.2, ()))))), fun t => (t.1.2.2.1, (t.1.2.2.2.1, (t.1.2.2.2.2.1, t.2.2.2.1))), fun t => (t.1.2.2.2.2.2.1, t.2.2.2.2.1), wsc, fun k r => .l (.exit 8 (wav ({ slots := [2, 3, 4, 5, 6], sh := (yj [.box 2 0, .box 3 0, .dat yi, .dat yi, .dat yi]), obs := [(2, .cells Zy), Zv, Zba, Zaq] }) (((), ((), (k.1, (k.2.1, (k.2.2.1, ()))))), (((), ((), ())), (((), ((), ())), (k.2.2.2, (r, ())))))))⟩
noncomputable def wob (k : Int × Yj) (v : Int × Y2) : Tr ((Int × Y2) ⊕ Y2) :=
 .t (decide (v.1 < ((length k.2.2 : Nat) : Int)))
 (.c Y2 (wamd (k.1, (k.2.1, (v.1, k.2.2))) ((0 : Int), v.2)) fun r29_ =>
 .l (.inl ((wrap .i64 (v.1 + 1)), r29_)))
 (.l (.inr v.2))
noncomputable def wame (k : Int × Yj) (v : Int × Y2) : Option Y2 := iter (fun v => (wob k v).ev) v
noncomputable def wacv : LD := ⟨{ acts := [], S := { slots := [2, 3, 4, 5, 6], sh := (yj [.box 2 0, .box 3 0, .dat yi, .dat yi, .dat yi]), obs := [(2, .cells Zy), Zv, Zba, Zaq] } }, [(6, { acts := [], S := { slots := [2, 3, 4, 5], sh := (yj [.box 2 0, .box 3 0, .dat yi, .dat yi]), obs := [(2, .cells Zy), Zv, Zba, Zaq] } })], (yh [] .nil), Int × Yj, Int × Y2, List Y1, fun k v => (((), ((), (k.1, (k.2.1, (v.1, ()))))), (((), ((), ())), (((), ((), ())), (k.2.2, (v.2, ()))))), fun t => (t.1.2.2.1, (t.1.2.2.2.1, t.2.2.2.1)), fun t => (t.1.2.2.2.2.1, t.2.2.2.2.1), wob, fun k r => .l (.exit 6 (wav ({ slots := [2, 3, 4, 5], sh := (yj [.box 2 0, .box 3 0, .dat yi, .dat yi]), obs := [(2, .cells Zy), Zv, Zba, Zaq] }) (((), ((), (k.1, (k.2.1, ())))), (((), ((), ())), (((), ((), ())), (k.2.2, (r, ())))))))⟩
noncomputable def woc (k : Int × Y1) (v : Int × Y2) : Tr ((Int × Y2) ⊕ Y2) :=
 .t (decide (v.1 < ((length v.2 : Nat) : Int)))
 (.c Y2 (wame (k.1, (v.1, k.2)) ((0 : Int), v.2)) fun r34_ =>
 .l (.inl ((wrap .i64 (v.1 + 1)), r34_)))
 (.l (.inr v.2))
noncomputable def wamf (k : Int × Y1) (v : Int × Y2) : Option Y2 := iter (fun v => (woc k v).ev) v
noncomputable def wacw : LD := ⟨{ acts := [], S := { slots := [2, 3, 4, 5], sh := (yj [.box 2 0, .box 3 0, .dat yi, .dat yi]), obs := [(2, .cells Zy), Zv, Zba, Zaq] } }, [(4, { acts := [], S := { slots := [2, 3, 4], sh := (yj [.box 2 0, .box 3 0, .dat yi]), obs := [(2, .cells Zy), Zv, Zba, Zaq] } })], (yh [] .nil), Int × Y1, Int × Y2, List Y1, fun k v => (((), ((), (k.1, (v.1, ())))), (((), ((), ())), (((), ((), ())), (k.2, (v.2, ()))))), fun t => (t.1.2.2.1, t.2.2.2.1), fun t => (t.1.2.2.2.1, t.2.2.2.2.1), woc, fun k r => .l (.exit 4 (wav ({ slots := [2, 3, 4], sh := (yj [.box 2 0, .box 3 0, .dat yi]), obs := [(2, .cells Zy), Zv, Zba, Zaq] }) (((), ((), (k.1, ()))), (((), ((), ())), (((), ((), ())), (k.2, (r, ())))))))⟩
noncomputable def wod (k : Y1) (v : Int × Y2) : Tr ((Int × Y2) ⊕ Y2) :=
 .t (decide (v.1 < ((length v.2 : Nat) : Int)))
 (.c Y2 (wamf (v.1, k) ((0 : Int), v.2)) fun r38_ =>
 .l (.inl ((wrap .i64 (v.1 + 1)), r38_)))
 (.l (.inr v.2))
noncomputable def wamg (k : Y1) (v : Int × Y2) : Option Y2 := iter (fun v => (wod k v).ev) v
noncomputable def wacx : LD := ⟨{ acts := [], S := { slots := [2, 3, 4], sh := (yj [.box 2 0, .box 3 0, .dat yi]), obs := [(2, .cells Zy), Zv, Zba, Zaq] } }, [(2, { acts := [], S := { slots := [2, 3], sh := (yj [.box 2 0, .box 3 0]), obs := [(2, .cells Zy), Zv, Zba, Zaq] } })], (yh [] .nil), Y1, Int × Y2, List Y1, fun k v => (((), ((), (v.1, ()))), (((), ((), ())), (((), ((), ())), (k, (v.2, ()))))), fun t => t.2.2.2.1, fun t => (t.1.2.2.1, t.2.2.2.2.1), wod, fun k r => .l (.exit 2 (wav ({ slots := [2, 3], sh := (yj [.box 2 0, .box 3 0]), obs := [(2, .cells Zy), Zv, Zba, Zaq] }) (((), ((), ())), (((), ((), ())), (((), ((), ())), (k, (r, ())))))))⟩
noncomputable def wsd (k : Y1) (v : List Y1) : Tr (Y2 ⊕ Y2) :=
 .c (Bool) (waur k v) fun r4_ =>
 .t (!r4_)
 (.c Y2 (wamg k ((0 : Int), v)) fun r41_ =>
 .l (.inl r41_))
 (.l (.inr v))
noncomputable def wsf (k : Y1) (v : List Y1) : Option Y2 := iter (fun v => (wsd k v).ev) v
noncomputable def wacy : LD := ⟨{ acts := [], S := { slots := [2, 3], sh := (yj [.box 2 0, .box 3 0]), obs := [(2, .cells Zy), Zv, Zba, Zaq] } }, [(0, { acts := [], S := { slots := [2, 3], sh := (yj [.box 2 0, .box 3 0]), obs := [(2, .cells Zy), Zv, Zba, Zaq] } })], (yh [] .nil), Y1, List Y1, List Y1, fun k v => (((), ((), ())), (((), ((), ())), (((), ((), ())), (k, (v, ()))))), fun t => t.2.2.2.1, fun t => t.2.2.2.2.1, wsd, fun k r => .l (.exit 0 (wav ({ slots := [2, 3], sh := (yj [.box 2 0, .box 3 0]), obs := [(2, .cells Zy), Zv, Zba, Zaq] }) (((), ((), ())), (((), ((), ())), (((), ((), ())), (k, (r, ())))))))⟩
noncomputable def wber (a1_ : Y1) (a2_ : List Y1) : Tr Yai :=
 .c Yai (wauq a1_ a2_) fun r1_ =>
 .c Y2 (wsf r1_.1 r1_.2) fun r44_ =>
 .l (r1_.1, r44_)
noncomputable def wamh (a1_ : Y1) (a2_ : List Y1) : Option Yai := (wber a1_ a2_).ev
noncomputable def wbyl : RetK := { acts := [.ren 577 1, .ren 580 4], res := [.cell 2 27], sh := (yj [.agg (yj [.arr 1, .arr 4])]), obs := [(1, .arr 3 yi), (4, .rows 24 3 yi)], pins := [] }
noncomputable def waut : FD := yd (yj [.agg Zf]) [] [] Yai (fun x => wamh x.1.1.1 x.1.1.2.1) (fun r => ([.agg [.arr 1, .arr 4]], [(1, .arr 3 yi r.1), (4, .rows 24 3 yi r.2 none)]))
noncomputable def wyy : Env := wac [(228, wbek), (229, wbep), (194, waus)]
noncomputable def wyz : List (Nat × LD) := [(8, wacu), (6, wacv), (4, wacw), (2, wacx), (0, wacy)]
noncomputable def wza : Code := (f178.body).getD .skip
noncomputable def wbes (a4_ : Int) (a1_ : Y1) (a2_ : Int) (a3_ : Int) : Tr Yk :=
 .c Yw (whg (3 : Int) a1_ a2_ a3_) fun r1_ =>
 .t (r1_.1 == 0)
 (.c Yk (wyw a4_ r1_.2.1 r1_.2.2.1 r1_.2.2.2) fun r2_ =>
 .c Yk (wahc r2_.2.2.1 r2_.2.2.2.1 r2_.2.2.2.2 r2_.1 r2_.2.1) fun r3_ =>
 .l (r3_.1, (r3_.2.1, (r3_.2.2.1, (r3_.2.2.2.1, r3_.2.2.2.2)))))
 (.t (r1_.1 == 1)
 (.c Yk (walt a4_ r1_.2.1 r1_.2.2.1 r1_.2.2.2) fun r4_ =>
 .c Yk (wahc r4_.2.2.1 r4_.2.2.2.1 r4_.2.2.2.2 r4_.1 r4_.2.1) fun r5_ =>
 .l (r5_.1, (r5_.2.1, (r5_.2.2.1, (r5_.2.2.2.1, r5_.2.2.2.2)))))
 (.c Yk (wyw a4_ r1_.2.1 r1_.2.2.1 r1_.2.2.2) fun r6_ =>
 .c Yai (wamh r6_.1 r6_.2.1) fun r7_ =>
 .c Yk (wahc r6_.2.2.1 r6_.2.2.2.1 r6_.2.2.2.2 r7_.1 r7_.2) fun r8_ =>
 .l (r8_.1, (r8_.2.1, (r8_.2.2.1, (r8_.2.2.2.1, r8_.2.2.2.2))))))
noncomputable def wauu (a4_ : Int) (a1_ : Y1) (a2_ : Int) (a3_ : Int) : Option Yk := (wbes a4_ a1_ a2_ a3_).ev
noncomputable def wbym : RetK := { acts := [.ren 833 1, .ren 1281 1, .ren 1665 1, .ren 834 2, .ren 1282 2, .ren 1666 2], res := [.cell 4 27], sh := (yj [.agg (yj [.arr 1, .arr 2])]), obs := [(1, .arr 3 yi), (2, .rows 24 3 yi), Ze], pins := [(0, 0, 64)] }
noncomputable def wbet : FD := yd (yj [.box 64 0, .dat yi]) [Ze] [.arg 0] Yk (fun x => wauu x.1.2.1 x.2.1.1 x.2.1.2.1 x.2.1.2.2.1) (fun r => ([.agg [.arr 1, .arr 2]], [(1, .arr 3 yi r.1), (2, .rows 24 3 yi r.2.1 none), (64, .cells [.dat Zaf r.2.2.1, .dat yi r.2.2.2.1, .dat (.int .u64) r.2.2.2.2])]))
noncomputable def wbeu (a1_ : Y1) (a2_ : Int) (a3_ : Int) : Tr Yk :=
 .c Yk (wauu (7 : Int) a1_ a2_ a3_) fun r1_ =>
 .l (r1_.1, (r1_.2.1, (r1_.2.2.1, (r1_.2.2.2.1, r1_.2.2.2.2))))
noncomputable def wami (a1_ : Y1) (a2_ : Int) (a3_ : Int) : Option Yk := (wbeu a1_ a2_ a3_).ev
noncomputable def wbyn : RetK := { acts := [.ren 257 1, .ren 258 3], res := [.cell 2 27], sh := (yj [.agg (yj [.arr 1, .arr 3])]), obs := [(1, .arr 3 yi), (3, .rows 24 3 yi), Ze], pins := [(0, 0, 64)] }
noncomputable def wauv : FD := yd (yj [.box 64 0]) [Ze] [.arg 0] Yk (fun x => wami x.2.1.1 x.2.1.2.1 x.2.1.2.2.1) (fun r => ([.agg [.arr 1, .arr 3]], [(1, .arr 3 yi r.1), (3, .rows 24 3 yi r.2.1 none), (64, .cells [.dat Zaf r.2.2.1, .dat yi r.2.2.2.1, .dat (.int .u64) r.2.2.2.2])]))
noncomputable def wbev (a1_ : Y1) : Tr Yai :=
 .c Yk (wami a1_ (0 : Int) (0 : Int)) fun r1_ =>
 .l (r1_.1, r1_.2.1)
noncomputable def wauw (a1_ : Y1) : Option Yai := (wbev a1_).ev
noncomputable def wbyo : RetK := { acts := [.ren 513 1, .ren 515 3], res := [.cell 2 27], sh := (yj [.agg (yj [.arr 1, .arr 3])]), obs := [(1, .arr 3 yi), (3, .rows 24 3 yi)], pins := [] }
noncomputable def wbew : FD := yd (yj [.dat Zaf]) [] [] Yai (fun x => wauw x.1.1) (fun r => ([.agg [.arr 1, .arr 3]], [(1, .arr 3 yi r.1), (3, .rows 24 3 yi r.2 none)]))
noncomputable def wbex (a1_ : Y1) : Tr Yai :=
 .c Yai (wauw a1_) fun r1_ =>
 .l (r1_.1, r1_.2)
noncomputable def waux (a1_ : Y1) : Option Yai := (wbex a1_).ev
noncomputable def wbyp : RetK := { acts := [.ren 257 1, .ren 259 3], res := [.cell 2 27], sh := (yj [.agg (yj [.arr 1, .arr 3])]), obs := [(1, .arr 3 yi), (3, .rows 24 3 yi)], pins := [] }
noncomputable def wbey : FD := yd (yj [.dat Zaf]) [] [] Yai (fun x => waux x.1.1) (fun r => ([.agg [.arr 1, .arr 3]], [(1, .arr 3 yi r.1), (3, .rows 24 3 yi r.2 none)]))
noncomputable def wbez (a1_ : Int) (a2_ : Int) (a3_ : Int) : Tr (Bool) :=
 .t (decide (a2_ ≤ a1_))
 (.l (decide (a1_ ≤ a3_)))
 (.l false)
noncomputable def wahg (a1_ : Int) (a2_ : Int) (a3_ : Int) : Option (Bool) := (wbez a1_ a2_ a3_).ev
noncomputable def wbyq : RetK := yr [.tmp 6] Zm
noncomputable def wamj : FD := yd (yj [.dat yi, .dat yi, .dat yi]) [] [] Bool (fun x => wahg x.1.1 x.1.2.1 x.1.2.2.1) (fun r => ([.dat .bool r], []))
noncomputable def woe (k : Y1 × ((Yam) × Int)) (v : Int) : Tr ((Int) ⊕ ((Unit) ⊕ (Int))) :=
 .t (decide (v < k.2.2))
 (.g (inR v (length k.1)) <|
 .c (Bool) (k.2.1 ((getD k.1 (toNat v) 0), ())) fun r5_ =>
 .t r5_
 (.l (.inr (.inr v)))
 (.l (.inl (wrap .i64 (v + 1)))))
 (.l (.inr (.inl ())))
noncomputable def wamk (k : Y1 × ((Yam) × Int)) (v : Int) : Option ((Unit) ⊕ (Int)) := iter (fun v => (woe k v).ev) v
noncomputable def wacz : LD := ⟨(yh [0, 1, 7, 8] (yj [.dat y1, .clo [yi] .bool, .dat yi, .dat yi])), [(0, (yh [] .nil))], (yh [4] Zh), Y1 × ((Yam) × Int), Int, (Unit) ⊕ (Int), fun k v => ((k.1, (k.2.1, (k.2.2, (v, ())))), ()), fun t => (t.1.1, (t.1.2.1, t.1.2.2.1)), fun t => t.1.2.2.2.1, woe, fun _ r => .s (Unit) (Int) r (fun _ => .l (.exit 0 (wav ((ys [] .nil)) ((), ())))) (fun b => .l (.ret (wav ((ys [4] Zh)) ((b, ()), ()))))⟩
noncomputable def wbfa (a1_ : Y1) (a2_ : Yam) : Tr (Int) :=
 .c ((Unit) ⊕ (Int)) (wamk (a1_, (a2_, ((length a1_ : Nat) : Int))) (0 : Int)) fun r7_ =>
 .s (Unit) (Int) r7_
 (fun _ => .l (-1 : Int))
 (fun r9_ => .l r9_)
noncomputable def waml (a1_ : Y1) (a2_ : Yam) : Option (Int) := (wbfa a1_ a2_).ev
noncomputable def wbyr : RetK := yr [.tmp 4] Zh
noncomputable def wauy : FD := yd (yj [.dat y1, .clo [yi] .bool]) [] [] Int (fun x => waml x.1.1 x.1.2.1) (fun r => ([.dat yi r], []))
noncomputable def wbfb : Env := wac []
noncomputable def wbfc : List (Nat × LD) := [(0, wacz)]
noncomputable def wbfd : Code := (f206.body).getD .skip
noncomputable def wbfe (a1_ : Y1) (a2_ : Yam) : Tr (Bool) :=
 .c (Int) (waml a1_ a2_) fun r1_ =>
 .l (decide (0 ≤ r1_))
noncomputable def wauz (a1_ : Y1) (a2_ : Yam) : Option (Bool) := (wbfe a1_ a2_).ev
noncomputable def wbys : RetK := yr [.tmp 4] Zm
noncomputable def wava : FD := yd (yj [.dat y1, .clo [yi] .bool]) [] [] Bool (fun x => wauz x.1.1 x.1.2.1) (fun r => ([.dat .bool r], []))
noncomputable def wbff (a1_ : Int) (a2_ : Int) (a3_ : Int) : Tr (Bool) :=
 .c (Bool) (wahg a1_ a2_ a3_) fun r1_ =>
 .l (!r1_)
noncomputable def wbfg (a1_ : Int) (a2_ : Int) (a3_ : Int) : Option (Bool) := (wbff a1_ a2_ a3_).ev
noncomputable def wbyt : RetK := yr [.tmp 4] Zm
noncomputable def wbfh : FD := yd (yj [.dat yi, .ptr Zh, .ptr Zh]) [] [] Bool (fun x => wbfg x.1.1 x.1.2.1.1 x.1.2.2.1.1) (fun r => ([.dat .bool r], []))
noncomputable def wbfi (a1_ : Y1) (a2_ : Int) (a3_ : Int) : Tr (Bool) :=
 .c (Bool) (wauz a1_ (fun h1_ => Option.bind (wbfg h1_.1 a2_ a3_) fun y2_ => some y2_)) fun r3_ =>
 .l (!r3_)
noncomputable def wamm (a1_ : Y1) (a2_ : Int) (a3_ : Int) : Option (Bool) := (wbfi a1_ a2_ a3_).ev
noncomputable def wbyu : RetK := yr [.tmp 6] Zm
noncomputable def wavb : FD := yd Zat [] [] Bool (fun x => wamm x.1.1 x.1.2.1 x.1.2.2.1) (fun r => ([.dat .bool r], []))
noncomputable def wof (k : Y2 × (((HL [y1] → Option (Bool))) × Int)) (v : Int) : Tr ((Int) ⊕ ((Unit) ⊕ (Int))) :=
 .t (decide (v < k.2.2))
 (.g (inR v (length k.1)) <|
 .c (Bool) (k.2.1 ((getD k.1 (toNat v) ([] : Y1)), ())) fun r5_ =>
 .t r5_
 (.l (.inr (.inr v)))
 (.l (.inl (wrap .i64 (v + 1)))))
 (.l (.inr (.inl ())))
noncomputable def wamn (k : Y2 × (((HL [y1] → Option (Bool))) × Int)) (v : Int) : Option ((Unit) ⊕ (Int)) := iter (fun v => (wof k v).ev) v
noncomputable def wada : LD := ⟨(yh [0, 1, 7, 8] (yj [.dat y2, .clo [y1] .bool, .dat yi, .dat yi])), [(0, (yh [] .nil))], (yh [4] Zh), Y2 × (((HL [y1] → Option (Bool))) × Int), Int, (Unit) ⊕ (Int), fun k v => ((k.1, (k.2.1, (k.2.2, (v, ())))), ()), fun t => (t.1.1, (t.1.2.1, t.1.2.2.1)), fun t => t.1.2.2.2.1, wof, fun _ r => .s (Unit) (Int) r (fun _ => .l (.exit 0 (wav ((ys [] .nil)) ((), ())))) (fun b => .l (.ret (wav ((ys [4] Zh)) ((b, ()), ()))))⟩
noncomputable def wbfj (a1_ : List Y1) (a2_ : (HL [y1] → Option (Bool))) : Tr (Int) :=
 .c ((Unit) ⊕ (Int)) (wamn (a1_, (a2_, ((length a1_ : Nat) : Int))) (0 : Int)) fun r7_ =>
 .s (Unit) (Int) r7_
 (fun _ => .l (-1 : Int))
 (fun r9_ => .l r9_)
noncomputable def wavc (a1_ : List Y1) (a2_ : (HL [y1] → Option (Bool))) : Option (Int) := (wbfj a1_ a2_).ev
noncomputable def wbyv : RetK := yr [.tmp 4] Zh
noncomputable def wbfk : FD := yd (yj [.dat y2, .clo [y1] .bool]) [] [] Int (fun x => wavc x.1.1 x.1.2.1) (fun r => ([.dat yi r], []))
noncomputable def wbfl : Env := wac []
noncomputable def wbfm : List (Nat × LD) := [(0, wada)]
noncomputable def wbfn : Code := (f131.body).getD .skip
noncomputable def wbfo (a1_ : List Y1) (a2_ : (HL [y1] → Option (Bool))) : Tr (Bool) :=
 .c (Int) (wavc a1_ a2_) fun r1_ =>
 .l (decide (0 ≤ r1_))
noncomputable def wavd (a1_ : List Y1) (a2_ : (HL [y1] → Option (Bool))) : Option (Bool) := (wbfo a1_ a2_).ev
noncomputable def wbyw : RetK := yr [.tmp 4] Zm
noncomputable def wave : FD := yd (yj [.dat y2, .clo [y1] .bool]) [] [] Bool (fun x => wavd x.1.1 x.1.2.1) (fun r => ([.dat .bool r], []))
noncomputable def T_zv (a1_ : Y1) (a2_ : Y1) (_a3_ : List Y1) : Tr (Bool) :=
 .t (((length a1_ : Nat) : Int) != ((length a2_ : Nat) : Int))
 (.l true)
 (.c (Bool) (wamm a1_ (0 : Int) (99 : Int)) fun r1_ =>
 .l (!r1_))
noncomputable def F_zv (a1_ : Y1) (a2_ : Y1) (a3_ : List Y1) : Option (Bool) := (T_zv a1_ a2_ a3_).ev
noncomputable def K_zv : RetK := yr [.tmp 3] Zm
noncomputable def D_zv : FD := yd (yj [.dat y1, .ptr Zf]) [] [] Bool (fun x => F_zv x.1.1 x.1.2.1.1 x.1.2.1.2.1) (fun r => ([.dat .bool r], []))
noncomputable def T_zu (a1_ : Y1) (a2_ : List Y1) : Tr (Bool) :=
 .c (Bool) (wahg ((length a1_ : Nat) : Int) (1 : Int) (7 : Int)) fun r1_ =>
 .t r1_
 (.c (Bool) (wamm a1_ (0 : Int) (99 : Int)) fun r2_ =>
 .t r2_
 (.t (decide (((length a2_ : Nat) : Int) ≤ (7 : Int)))
 (.c (Bool) (wavd a2_ (fun h3_ => Option.bind (F_zv h3_.1 a1_ a2_) fun y4_ => some y4_)) fun r5_ =>
 .l (!r5_))
 (.l false))
 (.l false))
 (.l false)
noncomputable def F_zu (a1_ : Y1) (a2_ : List Y1) : Option (Bool) := (T_zu a1_ a2_).ev
noncomputable def K_zu : RetK := yr [.tmp 2] Zm
noncomputable def D_zu : FD := yd (yj [.agg Zf]) [] [] Bool (fun x => F_zu x.1.1.1 x.1.1.2.1) (fun r => ([.dat .bool r], []))
noncomputable def wog (k : Y1) (v : Int × Int) : Tr (Yg ⊕ (Int)) :=
 .t (decide (v.2 < ((length k : Nat) : Int)))
 (.g (inR v.2 (length k)) <|
 .l (.inl ((if (getD k (toNat v.2) 0) < v.1 then (getD k (toNat v.2) 0) else v.1), (wrap .i64 (v.2 + 1)))))
 (.l (.inr v.1))
noncomputable def wamo (k : Y1) (v : Int × Int) : Option (Int) := iter (fun v => (wog k v).ev) v
noncomputable def wadb : LD := ⟨(yh [0, 3, 4] Zat), [(0, (yh [3] Zh))], (yh [] .nil), Y1, Int × (Int), Int, fun k v => ((k, (v.1, (v.2, ()))), ()), fun t => t.1.1, fun t => (t.1.2.1, t.1.2.2.1), wog, fun _ r => .l (.exit 0 (wav ((ys [3] Zh)) ((r, ()), ())))⟩
noncomputable def wbfq (a1_ : Y1) : Tr (Int) :=
 .t (decide (((length a1_ : Nat) : Int) < (1 : Int)))
 (.f)
 (.g (inR 0 (length a1_)) <|
 .c (Int) (wamo a1_ ((getD a1_ (toNat 0) 0), (1 : Int))) fun r5_ =>
 .l r5_)
noncomputable def wavf (a1_ : Y1) : Option (Int) := (wbfq a1_).ev
noncomputable def wbza : RetK := yr [.tmp 2] Zh
noncomputable def wbfr : FD := yd (yj [.dat y1]) [] [] Int (fun x => wavf x.1.1) (fun r => ([.dat yi r], []))
noncomputable def wbfs : Env := wac []
noncomputable def wbft : List (Nat × LD) := [(0, wadb)]
noncomputable def wbfu : Code := (f221.body).getD .skip
noncomputable def wgi (k : Y1 × Yg) (v : Int) : Tr ((Int) ⊕ ((Unit) ⊕ (Int))) :=
 .t (decide (v < k.2.2))
 (.g (inR v (length k.1)) <|
 .t (k.2.1 == (getD k.1 (toNat v) 0))
 (.l (.inr (.inr v)))
 (.l (.inl (wrap .i64 (v + 1)))))
 (.l (.inr (.inl ())))
noncomputable def wzb (k : Y1 × Yg) (v : Int) : Option ((Unit) ⊕ (Int)) := iter (fun v => (wgi k v).ev) v
noncomputable def wadc : LD := ⟨(yh [0, 1, 7, 8] (yj [.dat y1, .dat yi, .dat yi, .dat yi])), [(0, (yh [] .nil))], (yh [4] Zh), Y1 × Yg, Int, (Unit) ⊕ (Int), fun k v => ((k.1, (k.2.1, (k.2.2, (v, ())))), ()), fun t => (t.1.1, (t.1.2.1, t.1.2.2.1)), fun t => t.1.2.2.2.1, wgi, fun _ r => .s (Unit) (Int) r (fun _ => .l (.exit 0 (wav ((ys [] .nil)) ((), ())))) (fun b => .l (.ret (wav ((ys [4] Zh)) ((b, ()), ()))))⟩
noncomputable def wavg (a1_ : Y1) (a2_ : Int) : Tr (Int) :=
 .c ((Unit) ⊕ (Int)) (wzb (a1_, (a2_, ((length a1_ : Nat) : Int))) (0 : Int)) fun r6_ =>
 .s (Unit) (Int) r6_
 (fun _ => .l (-1 : Int))
 (fun r8_ => .l r8_)
noncomputable def wamp (a1_ : Y1) (a2_ : Int) : Option (Int) := (wavg a1_ a2_).ev
noncomputable def wbzb : RetK := yr [.tmp 4] Zh
noncomputable def wavh : FD := yd (yj [.dat y1, .dat yi]) [] [] Int (fun x => wamp x.1.1 x.1.2.1) (fun r => ([.dat yi r], []))
noncomputable def wbfv : Env := wac []
noncomputable def wbfw : List (Nat × LD) := [(0, wadc)]
noncomputable def wbfx : Code := (f199.body).getD .skip
noncomputable def T_zh (a1_ : Y1) (_a2_ : List Y1) : Tr (Int) :=
 .c (Int) (wavf a1_) fun r1_ =>
 .c (Int) (wamp a1_ r1_) fun r2_ =>
 .l r2_
noncomputable def F_zh (a1_ : Y1) (a2_ : List Y1) : Option (Int) := (T_zh a1_ a2_).ev
noncomputable def K_zh : RetK := yr [.tmp 2] Zh
noncomputable def D_zh : FD := yd (yj [.agg Zf]) [] [] Int (fun x => F_zh x.1.1.1 x.1.1.2.1) (fun r => ([.dat yi r], []))
noncomputable def wavi (a1_ : Int) (a2_ : Int) : Tr (Bool) :=
 .g (decide (0 ≤ a2_)) <|
 .l ((wrap .u64 (BitVec.toNat ((BitVec.ofInt Zb (Int.fdiv a1_ (2 ^ (min (toNat a2_) Zb)))) &&& (BitVec.ofInt Zb (1 : Int))))) == (1 : Int))
noncomputable def wsg (a1_ : Int) (a2_ : Int) : Option (Bool) := (wavi a1_ a2_).ev
noncomputable def wbze : RetK := yr [.tmp 4] Zm
noncomputable def wamq : FD := yd (yj [.dat (.int .u64), .dat yi]) [] [] Bool (fun x => wsg x.1.1 x.1.2.1) (fun r => ([.dat .bool r], []))
noncomputable def wahh (a1_ : Y1) : Option (List Int) := wqs a1_
noncomputable def wbfy : FD := fdClone
noncomputable def wht (k : Int × (Int × ((Yq) × Int))) (v : Int × Y1) : Tr (Yj ⊕ Y1) :=
 .t (decide (k.1 < v.1))
 (.g (inR v.1 (length v.2)) <|
 .g (decide ((toNat v.1) < length v.2)) <|
 .g (inR (wrap .i64 (v.1 - 1)) (length v.2)) <|
 .g (decide ((toNat (wrap .i64 (v.1 - 1))) < length v.2)) <|
 .c (Int) (k.2.2.1 ((getD v.2 (toNat v.1) 0), ((getD v.2 (toNat (wrap .i64 (v.1 - 1))) (0 : Int)), ()))) fun r12_ =>
 .t (decide (r12_ < 0))
 (.g (inR (wrap .i64 (v.1 - 1)) (length v.2)) <|
 .g (decide ((toNat (wrap .i64 (v.1 - 1))) < length v.2)) <|
 .g (inR v.1 (length v.2)) <|
 .g (decide ((toNat v.1) < length v.2)) <|
 .g (inR v.1 (length v.2)) <|
 .g (decide ((toNat v.1) < length v.2)) <|
 .g (inR (wrap .i64 (v.1 - 1)) (length (set v.2 (toNat v.1) (getD v.2 (toNat (wrap .i64 (v.1 - 1))) (0 : Int))))) <|
 .g (decide ((toNat (wrap .i64 (v.1 - 1))) < length (set v.2 (toNat v.1) (getD v.2 (toNat (wrap .i64 (v.1 - 1))) (0 : Int))))) <|
 .l (.inl ((wrap .i64 (v.1 - 1)), (set (set v.2 (toNat v.1) (getD v.2 (toNat (wrap .i64 (v.1 - 1))) (0 : Int))) (toNat (wrap .i64 (v.1 - 1))) (getD v.2 (toNat v.1) 0)))))
 (.l (.inr v.2)))
 (.l (.inr v.2))
noncomputable def woh (k : Int × (Int × ((Yq) × Int))) (v : Int × Y1) : Option Y1 := iter (fun v => (wht k v).ev) v
noncomputable def wadd : LD := ⟨{ acts := [], S := { slots := [0, 1, 2, 3, 8, 9], sh := (yj [.arr 64, .dat yi, .dat yi, .clo [yi, yi] yi, .dat yi, .dat yi]), obs := [Zaa] } }, [(2, { acts := [], S := { slots := [0, 1, 2, 3, 8], sh := (yj [.arr 64, .dat yi, .dat yi, .clo [yi, yi] yi, .dat yi]), obs := [Zaa] } })], (yh [] .nil), Int × (Int × ((Yq) × Int)), Int × Y1, Y1, fun k v => (((), (k.1, (k.2.1, (k.2.2.1, (k.2.2.2, (v.1, ())))))), (v.2, ())), fun t => (t.1.2.1, (t.1.2.2.1, (t.1.2.2.2.1, t.1.2.2.2.2.1))), fun t => (t.1.2.2.2.2.2.1, t.2.1), wht, fun k r => .l (.exit 2 (wav ({ slots := [0, 1, 2, 3, 8], sh := (yj [.arr 64, .dat yi, .dat yi, .clo [yi, yi] yi, .dat yi]), obs := [Zaa] }) (((), (k.1, (k.2.1, (k.2.2.1, (k.2.2.2, ()))))), (r, ()))))⟩
noncomputable def woi (k : Int × (Int × (Yq))) (v : Int × Y1) : Tr (Yj ⊕ Y1) :=
 .t (decide (v.1 < k.2.1))
 (.c Y1 (woh (k.1, (k.2.1, (k.2.2, v.1))) (v.1, v.2)) fun r18_ =>
 .l (.inl ((wrap .i64 (v.1 + 1)), r18_)))
 (.l (.inr v.2))
noncomputable def wamr (k : Int × (Int × (Yq))) (v : Int × Y1) : Option Y1 := iter (fun v => (woi k v).ev) v
noncomputable def wade : LD := ⟨{ acts := [], S := { slots := [0, 1, 2, 3, 8], sh := (yj [.arr 64, .dat yi, .dat yi, .clo [yi, yi] yi, .dat yi]), obs := [Zaa] } }, [(0, { acts := [], S := { slots := [0], sh := (yj [.arr 64]), obs := [Zaa] } })], (yh [] .nil), Int × (Int × (Yq)), Int × Y1, Y1, fun k v => (((), (k.1, (k.2.1, (k.2.2, (v.1, ()))))), (v.2, ())), fun t => (t.1.2.1, (t.1.2.2.1, t.1.2.2.2.1)), fun t => (t.1.2.2.2.2.1, t.2.1), woi, fun _ r => .l (.exit 0 (wav ({ slots := [0], sh := (yj [.arr 64]), obs := [Zaa] }) (((), ()), (r, ()))))⟩
noncomputable def wbfz (a2_ : Int) (a3_ : Int) (a4_ : Yq) (a1_ : Y1) : Tr Y1 :=
 .c Y1 (wamr (a2_, (a3_, a4_)) ((wrap .i64 (a2_ + 1)), a1_)) fun r20_ =>
 .l r20_
noncomputable def wams (a2_ : Int) (a3_ : Int) (a4_ : Yq) (a1_ : Y1) : Option Y1 := (wbfz a2_ a3_ a4_ a1_).ev
noncomputable def wbzf : RetK := { acts := [], res := [], sh := .nil, obs := [Zaa], pins := [(0, 0, 64)] }
noncomputable def wbga : FD := yd (yj [.arr 64, .dat yi, .dat yi, .clo [yi, yi] yi]) [Zaa] [.arg 0] Y1 (fun x => wams x.1.2.1 x.1.2.2.1 x.1.2.2.2.1 x.2.1) (fun r => ([], [(64, .arr 3 yi r)]))
noncomputable def wavj : Env := wac []
noncomputable def wavk : List (Nat × LD) := [(2, wadd), (0, wade)]
noncomputable def wavl : Code := (f266.body).getD .skip
noncomputable def wzc (k : Int × ((Yq) × Int)) (v : Int × Yj) : Tr ((Int × Yj) ⊕ Yj) :=
 .t (decide (v.2.1 ≤ k.1))
 (.c Y1 (wams v.1 v.2.1 k.2.1 v.2.2) fun r7_ =>
 .l (.inl (v.2.1, ((wrap .i64 (v.2.1 + k.2.2)), r7_))))
 (.l (.inr (v.1, v.2.2)))
noncomputable def wzd (k : Int × ((Yq) × Int)) (v : Int × Yj) : Option Yj := iter (fun v => (wzc k v).ev) v
noncomputable def wadf : LD := ⟨{ acts := [], S := { slots := [0, 1, 2, 6, 7, 8], sh := (yj [.arr 64, .dat yi, .clo [yi, yi] yi, .dat yi, .dat yi, .dat yi]), obs := [Zaa] } }, [(0, { acts := [], S := { slots := [0, 1, 2, 6, 7], sh := (yj [.arr 64, .dat yi, .clo [yi, yi] yi, .dat yi, .dat yi]), obs := [Zaa] } })], (yh [] .nil), Int × ((Yq) × Int), Int × Yj, Int × Y1, fun k v => (((), (k.1, (k.2.1, (k.2.2, (v.1, (v.2.1, ())))))), (v.2.2, ())), fun t => (t.1.2.1, (t.1.2.2.1, t.1.2.2.2.1)), fun t => (t.1.2.2.2.2.1, (t.1.2.2.2.2.2.1, t.2.1)), wzc, fun k r => .l (.exit 0 (wav ({ slots := [0, 1, 2, 6, 7], sh := (yj [.arr 64, .dat yi, .clo [yi, yi] yi, .dat yi, .dat yi]), obs := [Zaa] }) (((), (k.1, (k.2.1, (k.2.2, (r.1, ()))))), (r.2, ()))))⟩
noncomputable def wamt (k : Int × ((Yq) × (Int × (Int × Yj)))) (_v : Unit) : Tr ((Unit) ⊕ (Unit)) :=
 .t (decide (k.2.2.2.2.1 ≤ k.1))
 (.f)
 (.l (.inr ()))
noncomputable def wbgb (k : Int × ((Yq) × (Int × (Int × Yj)))) (v : Unit) : Option (Unit) := iter (fun v => (wamt k v).ev) v
noncomputable def wadg : LD := ⟨{ acts := [], S := { slots := [0, 1, 2, 6, 7, 8], sh := (yj [.arr 64, .dat yi, .clo [yi, yi] yi, .dat yi, .dat yi, .dat yi]), obs := [Zaa] } }, [(4, { acts := [], S := { slots := [0, 1, 2, 6, 7], sh := (yj [.arr 64, .dat yi, .clo [yi, yi] yi, .dat yi, .dat yi]), obs := [Zaa] } })], (yh [] .nil), Int × ((Yq) × (Int × (Int × Yj))), Unit, Unit, fun k _ => (((), (k.1, (k.2.1, (k.2.2.1, (k.2.2.2.1, (k.2.2.2.2.1, ())))))), (k.2.2.2.2.2, ())), fun t => (t.1.2.1, (t.1.2.2.1, (t.1.2.2.2.1, (t.1.2.2.2.2.1, (t.1.2.2.2.2.2.1, t.2.1))))), fun _ => (), wamt, fun k _ => .l (.exit 4 (wav ({ slots := [0, 1, 2, 6, 7], sh := (yj [.arr 64, .dat yi, .clo [yi, yi] yi, .dat yi, .dat yi]), obs := [Zaa] }) (((), (k.1, (k.2.1, (k.2.2.1, (k.2.2.2.1, ()))))), (k.2.2.2.2.2, ()))))⟩
noncomputable def wze (k : Int × ((Yq) × Y1)) (v : Int) : Tr ((Int) ⊕ (Unit)) :=
 .t (decide (v < k.1))
 (.c (Unit) (wbgb (k.1, (k.2.1, (v, ((0 : Int), ((wrap .i64 ((2 : Int) * v)), k.2.2))))) ()) fun _ =>
 .t (decide ((wrap .i64 ((0 : Int) + v)) < k.1))
 (.f)
 (.l (.inl (wrap .i64 (v * (2 : Int))))))
 (.l (.inr ()))
noncomputable def wzf (k : Int × ((Yq) × Y1)) (v : Int) : Option (Unit) := iter (fun v => (wze k v).ev) v
noncomputable def wadh : LD := ⟨{ acts := [], S := { slots := [0, 1, 2, 6], sh := (yj [.arr 64, .dat yi, .clo [yi, yi] yi, .dat yi]), obs := [Zaa] } }, [(2, { acts := [], S := { slots := [0], sh := (yj [.arr 64]), obs := [Zaa] } })], (yh [] .nil), Int × ((Yq) × Y1), Int, Unit, fun k v => (((), (k.1, (k.2.1, (v, ())))), (k.2.2, ())), fun t => (t.1.2.1, (t.1.2.2.1, t.2.1)), fun t => t.1.2.2.2.1, wze, fun k _ => .l (.exit 2 (wav ({ slots := [0], sh := (yj [.arr 64]), obs := [Zaa] }) (((), ()), (k.2.2, ()))))⟩
noncomputable def wbgc (a2_ : Int) (a3_ : Yq) (a1_ : Y1) : Tr Y1 :=
 .c Yj (wzd (a2_, (a3_, (20 : Int))) ((0 : Int), ((20 : Int), a1_))) fun r13_ =>
 .c Y1 (wams r13_.1 a2_ a3_ r13_.2) fun r14_ =>
 .c (Unit) (wzf (a2_, (a3_, r14_)) (20 : Int)) fun _ =>
 .l r14_
noncomputable def wbgd (a2_ : Int) (a3_ : Yq) (a1_ : Y1) : Option Y1 := (wbgc a2_ a3_ a1_).ev
noncomputable def wbzg : RetK := { acts := [], res := [], sh := .nil, obs := [Zaa], pins := [(0, 0, 64)] }
noncomputable def wbge : FD := yd (yj [.arr 64, .dat yi, .clo [yi, yi] yi]) [Zaa] [.arg 0] Y1 (fun x => wbgd x.1.2.1 x.1.2.2.1 x.2.1) (fun r => ([], [(64, .arr 3 yi r)]))
noncomputable def wamu : Env := wac [(266, wbga)]
noncomputable def wamv : List (Nat × LD) := [(0, wadf), (4, wadg), (2, wadh)]
noncomputable def wamw : Code := (f248.body).getD .skip
noncomputable def wbgf (a2_ : Yq) (a1_ : Y1) : Tr Y1 :=
 .c Y1 (wbgd ((length a1_ : Nat) : Int) a2_ a1_) fun r1_ =>
 .l r1_
noncomputable def wavm (a2_ : Yq) (a1_ : Y1) : Option Y1 := (wbgf a2_ a1_).ev
noncomputable def wbzh : RetK := { acts := [], res := [], sh := .nil, obs := [Zaa], pins := [(0, 0, 64)] }
noncomputable def wavn : FD := yd (yj [.arr 64, .clo [yi, yi] yi]) [Zaa] [.arg 0] Y1 (fun x => wavm x.1.2.1 x.2.1) (fun r => ([], [(64, .arr 3 yi r)]))
noncomputable def T_zc (a1_ : Int) : Tr (Bool) :=
 .l (a1_ != a1_)
noncomputable def F_zc (a1_ : Int) : Option (Bool) := (T_zc a1_).ev
noncomputable def K_zc : RetK := yr [.tmp 2] Zm
noncomputable def D_zc : FD := yd Zh [] [] Bool (fun x => F_zc x.1.1) (fun r => ([.dat .bool r], []))
noncomputable def T_za (a1_ : Int) (a2_ : Int) : Tr (Int) :=
 .c (Bool) (F_zc a1_) fun r1_ =>
 .c (Bool) (F_zc a2_) fun r2_ =>
 .t r1_
 (.t r2_
 (.l (0 : Int))
 (.l (-1 : Int)))
 (.t r2_
 (.l (1 : Int))
 (.t (decide (a1_ < a2_))
 (.l (-1 : Int))
 (.t (decide (a2_ < a1_))
 (.l (1 : Int))
 (.l (0 : Int)))))
noncomputable def F_za (a1_ : Int) (a2_ : Int) : Option (Int) := (T_za a1_ a2_).ev
noncomputable def K_za : RetK := yr [.tmp 4] Zh
noncomputable def D_za : FD := yd (yj [.dat yi, .dat yi]) [] [] Int (fun x => F_za x.1.1 x.1.2.1) (fun r => ([.dat yi r], []))
noncomputable def T_zm (a1_ : Int) (a2_ : Int) (_a3_ : Y1) (a4_ : List Y1) (a5_ : Int) : Tr (Int) :=
 .g (inR a1_ (length a4_)) <|
 .g (inR a5_ (length (getD a4_ (toNat a1_) ([] : Y1)))) <|
 .g (inR a2_ (length a4_)) <|
 .g (inR a5_ (length (getD a4_ (toNat a2_) ([] : Y1)))) <|
 .c (Int) (F_za (getD (getD a4_ (toNat a1_) ([] : Y1)) (toNat a5_) (0 : Int)) (getD (getD a4_ (toNat a2_) ([] : Y1)) (toNat a5_) (0 : Int))) fun r1_ =>
 .l r1_
noncomputable def F_zm (a1_ : Int) (a2_ : Int) (a3_ : Y1) (a4_ : List Y1) (a5_ : Int) : Option (Int) := (T_zm a1_ a2_ a3_ a4_ a5_).ev
noncomputable def K_zm : RetK := yr [.tmp 6] Zh
noncomputable def D_zm : FD := yd (yj [.dat yi, .dat yi, .ptr Zf, .ptr Zh]) [] [] Int (fun x => F_zm x.1.1 x.1.2.1 x.1.2.2.1.1 x.1.2.2.1.2.1 x.1.2.2.2.1.1) (fun r => ([.dat yi r], []))
noncomputable def T_zl (a1_ : Y1) (a2_ : List Y1) (a3_ : Int) (a4_ : Y1) : Tr Y1 :=
 .c (List Int) (wahh a4_) fun r1_ =>
 .c Y1 (wavm (fun h2_ => Option.bind (F_zm h2_.1 h2_.2.1 a1_ a2_ a3_) fun y3_ => some y3_) r1_) fun r4_ =>
 .l r4_
noncomputable def F_zl (a1_ : Y1) (a2_ : List Y1) (a3_ : Int) (a4_ : Y1) : Option Y1 := (T_zl a1_ a2_ a3_ a4_).ev
noncomputable def K_zl : RetK := { acts := [.ren 576 0], res := [.tmp 6], sh := (yj [.arr 0]), obs := [Zav], pins := [] }
noncomputable def D_zl : FD := yd (yj [.agg Zf, .dat yi, .dat y1]) [] [] Y1 (fun x => F_zl x.1.1.1 x.1.1.2.1 x.1.2.1 x.1.2.2.1) (fun r => ([.arr 0], [(0, .arr 3 yi r)]))
noncomputable def wkm (k : Yam) (v : Int × Yj) : Tr ((Int × Yj) ⊕ Yj) :=
 .t (decide (v.2.1 < ((length v.2.2 : Nat) : Int)))
 (.g (inR v.2.1 (length v.2.2)) <|
 .g (decide ((toNat v.2.1) < length v.2.2)) <|
 .c (Bool) (k ((getD v.2.2 (toNat v.2.1) 0), ())) fun r6_ =>
 .t (!r6_)
 (.g (inR v.1 (length v.2.2)) <|
 .g (decide ((toNat v.1) < length v.2.2)) <|
 .l (.inl ((wrap .i64 (v.1 + 1)), ((wrap .i64 (v.2.1 + 1)), (set v.2.2 (toNat v.1) (getD v.2.2 (toNat v.2.1) 0))))))
 (.l (.inl (v.1, ((wrap .i64 (v.2.1 + 1)), v.2.2)))))
 (.l (.inr (v.1, v.2.2)))
noncomputable def wamx (k : Yam) (v : Int × Yj) : Option Yj := iter (fun v => (wkm k v).ev) v
noncomputable def wadi : LD := ⟨{ acts := [], S := { slots := [0, 1, 5, 6], sh := (yj [.arr 64, .clo [yi] .bool, .dat yi, .dat yi]), obs := [Zaa] } }, [(0, { acts := [], S := { slots := [0, 5], sh := (yj [.arr 64, .dat yi]), obs := [Zaa] } })], (yh [] .nil), Yam, Int × Yj, Int × Y1, fun k v => (((), (k, (v.1, (v.2.1, ())))), (v.2.2, ())), fun t => t.1.2.1, fun t => (t.1.2.2.1, (t.1.2.2.2.1, t.2.1)), wkm, fun _ r => .l (.exit 0 (wav ({ slots := [0, 5], sh := (yj [.arr 64, .dat yi]), obs := [Zaa] }) (((), (r.1, ())), (r.2, ()))))⟩
noncomputable def wbgh (a2_ : Yam) (a1_ : Y1) : Tr Y1 :=
 .c (Int) (waml a1_ a2_) fun r1_ =>
 .t (r1_ == (-1 : Int))
 (.l a1_)
 (.c Yj (wamx a2_ (r1_, ((wrap .i64 (r1_ + 1)), a1_))) fun r9_ =>
 .g (decide (0 ≤ r9_.1) && decide (r9_.1 ≤ ((length r9_.2 : Nat) : Int))) <|
 .g (decide (0 ≤ r9_.1) && decide (r9_.1 ≤ ((length (List.take (toNat r9_.1) r9_.2 ++ List.replicate (length r9_.2 - (toNat r9_.1)) (0 : Int)) : Nat) : Int))) <|
 .l (List.take (toNat r9_.1) (List.take (toNat r9_.1) r9_.2 ++ List.replicate (length r9_.2 - (toNat r9_.1)) (0 : Int))))
noncomputable def wavo (a2_ : Yam) (a1_ : Y1) : Option Y1 := (wbgh a2_ a1_).ev
noncomputable def wbzn : RetK := { acts := [.ren 64 0], res := [.tmp 4], sh := (yj [.arr 0]), obs := [Zav], pins := [], gone := [64] }
noncomputable def wavp : FD := yd (yj [.arr 64, .clo [yi] .bool]) [Zaa] [.arg 0] Y1 (fun x => wavo x.1.2.1 x.2.1) (fun r => ([.arr 0], [(0, .arr 3 yi r), (64, .spent)]))
noncomputable def wbgi : Env := wac [(206, wauy)]
noncomputable def wbgj : List (Nat × LD) := [(0, wadi)]
noncomputable def wbgk : Code := (f164.body).getD .skip
noncomputable def wbgl (a1_ : Y1) (a2_ : Int) : Tr (Bool) :=
 .c (Int) (wamp a1_ a2_) fun r1_ =>
 .l (decide (0 ≤ r1_))
noncomputable def wavq (a1_ : Y1) (a2_ : Int) : Option (Bool) := (wbgl a1_ a2_).ev
noncomputable def wbzo : RetK := yr [.tmp 4] Zm
noncomputable def wbgm : FD := yd (yj [.dat y1, .dat yi]) [] [] Bool (fun x => wavq x.1.1 x.1.2.1) (fun r => ([.dat .bool r], []))
noncomputable def T_zt (a1_ : Int) (a2_ : Y1) : Tr (Bool) :=
 .c (Bool) (wavq a2_ a1_) fun r1_ =>
 .l r1_
noncomputable def F_zt (a1_ : Int) (a2_ : Y1) : Option (Bool) := (T_zt a1_ a2_).ev
noncomputable def K_zt : RetK := yr [.tmp 3] Zm
noncomputable def D_zt : FD := yd (yj [.dat yi, .ptr (yj [.dat y1])]) [] [] Bool (fun x => F_zt x.1.1 x.1.2.1.1) (fun r => ([.dat .bool r], []))
noncomputable def wsh (k : Int) (v : Int × Y1) : Tr (Yj ⊕ Y1) :=
 .g (decide (0 ≤ v.1)) <|
 .t (decide ((0 : Int) < (Int.fdiv k (2 ^ (min (toNat v.1) Zb)))))
 (.c (Bool) (wsg k v.1) fun r4_ =>
 .t r4_
 (.g (decide ((length v.2 + length ([v.1] : Y1)) * 8 ≤ 140737488355328)) <|
 .l (.inl ((wrap .i64 (v.1 + 1)), (v.2 ++ ([v.1] : Y1)))))
 (.l (.inl ((wrap .i64 (v.1 + 1)), v.2))))
 (.l (.inr v.2))
noncomputable def wzg (k : Int) (v : Int × Y1) : Option Y1 := iter (fun v => (wsh k v).ev) v
noncomputable def wadj : LD := ⟨{ acts := [], S := { slots := [0, 3, 4], sh := (yj [.dat (.int .u64), .arr 5, .dat yi]), obs := [(5, .arr 3 yi)] } }, [(0, { acts := [], S := { slots := [3], sh := (yj [.arr 5]), obs := [(5, .arr 3 yi)] } })], (yh [] .nil), Int, Int × Y1, Y1, fun k v => ((k, ((), (v.1, ()))), (v.2, ())), fun t => t.1.1, fun t => (t.1.2.2.1, t.2.1), wsh, fun _ r => .l (.exit 0 (wav ({ slots := [3], sh := (yj [.arr 5]), obs := [(5, .arr 3 yi)] }) (((), ()), (r, ()))))⟩
noncomputable def wavr (a1_ : Int) : Tr Y1 :=
 .c Y1 (wzg a1_ ((0 : Int), ([] : Y1))) fun r6_ =>
 .l r6_
noncomputable def woj (a1_ : Int) : Option Y1 := (wavr a1_).ev
noncomputable def wbzr : RetK := { acts := [.ren 5 0], res := [.tmp 2], sh := (yj [.arr 0]), obs := [Zav], pins := [] }
noncomputable def wahi : FD := yd Zar [] [] Y1 (fun x => woj x.1.1) (fun r => ([.arr 0], [(0, .arr 3 yi r)]))
noncomputable def wbgn : Env := wac [(143, wamq)]
noncomputable def wbgo : List (Nat × LD) := [(0, wadj)]
noncomputable def wbgp : Code := (f144.body).getD .skip
noncomputable def wvr (k : Int × Yn) (v : Int × Y1) : Tr (Yj ⊕ Y1) :=
 .t (decide (v.1 < k.2.1))
 (.g (decide ((length v.2 + length ([v.1] : Y1)) * 8 ≤ 140737488355328)) <|
 .l (.inl ((wrap .i64 (v.1 + 1)), (v.2 ++ ([v.1] : Y1)))))
 (.l (.inr v.2))
noncomputable def wbaq (k : Int × Yn) (v : Int × Y1) : Option Y1 := iter (fun v => (wvr k v).ev) v
noncomputable def wamy : LD := ⟨{ acts := [], S := { slots := [1, 4, 5, 28, 29], sh := (yj [.box 1 0, .dat (.int .u64), .arr 25, .dat yi, .dat yi]), obs := [Zu, (25, .arr 3 yi)] } }, [(0, { acts := [], S := { slots := [1, 4, 5], sh := (yj [.box 1 0, .dat (.int .u64), .arr 25]), obs := [Zu, (25, .arr 3 yi)] } })], (yh [] .nil), Int × Yn, Int × Y1, Y1, fun k v => (((), (k.1, ((), (k.2.1, (v.1, ()))))), ((k.2.2.1, (k.2.2.2, ())), (v.2, ()))), fun t => (t.1.2.1, (t.1.2.2.2.1, (t.2.1.1, t.2.1.2.1))), fun t => (t.1.2.2.2.2.1, t.2.2.1), wvr, fun k r => .l (.exit 0 (wav ({ slots := [1, 4, 5], sh := (yj [.box 1 0, .dat (.int .u64), .arr 25]), obs := [Zu, (25, .arr 3 yi)] }) (((), (k.1, ((), ()))), ((k.2.2.1, (k.2.2.2, ())), (r, ())))))⟩
noncomputable def wvs (k : Int × (Int × (Int × (Int × (Int × (Y1 × (Y2 × (Y1 × Y1)))))))) (v : Int × (Int × Yas)) : Tr ((Int × (Int × Yas)) ⊕ Yas) :=
 .t (decide (v.2.2.2.2 < k.2.2.2.2.1))
 (.g (inR v.2.2.2.2 (length k.2.2.2.2.2.2.2.2)) <|
 .g (decide ((toNat v.2.2.2.2) < length k.2.2.2.2.2.2.2.2)) <|
 .g (inR (getD k.2.2.2.2.2.2.2.2 (toNat v.2.2.2.2) 0) (length k.2.2.2.2.2.2.1)) <|
 .g (inR k.2.1 (length (getD k.2.2.2.2.2.2.1 (toNat (getD k.2.2.2.2.2.2.2.2 (toNat v.2.2.2.2) 0)) ([] : Y1)))) <|
 .t (decide (v.1 < 0))
 (.l (.inl (k.2.1, ((wrap .i64 (v.2.2.2.1 + (getD (getD k.2.2.2.2.2.2.1 (toNat (getD k.2.2.2.2.2.2.2.2 (toNat v.2.2.2.2) 0)) ([] : Y1)) (toNat k.2.1) (0 : Int)))), ((wrap .i64 (v.2.2.2.2 + 1)), ((wrap .i64 (v.2.2.2.1 + (getD (getD k.2.2.2.2.2.2.1 (toNat (getD k.2.2.2.2.2.2.2.2 (toNat v.2.2.2.2) 0)) ([] : Y1)) (toNat k.2.1) (0 : Int)))), (wrap .i64 (v.2.2.2.2 + 1))))))))
 (.t (decide ((wrap .i64 ((wrap .i64 (v.2.2.2.1 + (getD (getD k.2.2.2.2.2.2.1 (toNat (getD k.2.2.2.2.2.2.2.2 (toNat v.2.2.2.2) 0)) ([] : Y1)) (toNat k.2.1) (0 : Int)))) * v.2.2.1)) < (wrap .i64 (v.2.1 * (wrap .i64 (v.2.2.2.2 + 1))))))
 (.l (.inl (k.2.1, ((wrap .i64 (v.2.2.2.1 + (getD (getD k.2.2.2.2.2.2.1 (toNat (getD k.2.2.2.2.2.2.2.2 (toNat v.2.2.2.2) 0)) ([] : Y1)) (toNat k.2.1) (0 : Int)))), ((wrap .i64 (v.2.2.2.2 + 1)), ((wrap .i64 (v.2.2.2.1 + (getD (getD k.2.2.2.2.2.2.1 (toNat (getD k.2.2.2.2.2.2.2.2 (toNat v.2.2.2.2) 0)) ([] : Y1)) (toNat k.2.1) (0 : Int)))), (wrap .i64 (v.2.2.2.2 + 1))))))))
 (.t (v.1 == k.2.1)
 (.t ((wrap .i64 ((wrap .i64 (v.2.2.2.1 + (getD (getD k.2.2.2.2.2.2.1 (toNat (getD k.2.2.2.2.2.2.2.2 (toNat v.2.2.2.2) 0)) ([] : Y1)) (toNat k.2.1) (0 : Int)))) * v.2.2.1)) == (wrap .i64 (v.2.1 * (wrap .i64 (v.2.2.2.2 + 1)))))
 (.l (.inl (k.2.1, ((wrap .i64 (v.2.2.2.1 + (getD (getD k.2.2.2.2.2.2.1 (toNat (getD k.2.2.2.2.2.2.2.2 (toNat v.2.2.2.2) 0)) ([] : Y1)) (toNat k.2.1) (0 : Int)))), ((wrap .i64 (v.2.2.2.2 + 1)), ((wrap .i64 (v.2.2.2.1 + (getD (getD k.2.2.2.2.2.2.1 (toNat (getD k.2.2.2.2.2.2.2.2 (toNat v.2.2.2.2) 0)) ([] : Y1)) (toNat k.2.1) (0 : Int)))), (wrap .i64 (v.2.2.2.2 + 1))))))))
 (.l (.inl (v.1, (v.2.1, (v.2.2.1, ((wrap .i64 (v.2.2.2.1 + (getD (getD k.2.2.2.2.2.2.1 (toNat (getD k.2.2.2.2.2.2.2.2 (toNat v.2.2.2.2) 0)) ([] : Y1)) (toNat k.2.1) (0 : Int)))), (wrap .i64 (v.2.2.2.2 + 1)))))))))
 (.l (.inl (v.1, (v.2.1, (v.2.2.1, ((wrap .i64 (v.2.2.2.1 + (getD (getD k.2.2.2.2.2.2.1 (toNat (getD k.2.2.2.2.2.2.2.2 (toNat v.2.2.2.2) 0)) ([] : Y1)) (toNat k.2.1) (0 : Int)))), (wrap .i64 (v.2.2.2.2 + 1)))))))))))
 (.l (.inr (v.1, (v.2.1, v.2.2.1))))
noncomputable def wadk (k : Int × (Int × (Int × (Int × (Int × (Y1 × (Y2 × (Y1 × Y1)))))))) (v : Int × (Int × Yas)) : Option Yas := iter (fun v => (wvs k v).ev) v
noncomputable def wamz : LD := ⟨{ acts := [], S := { slots := [1, 4, 5, 7, 8, 9, 10, 11, 42, 43, 57, 58, 59], sh := (yj [.box 1 0, .dat (.int .u64), .arr 902705, .dat yi, .dat yi, .dat yi, .dat yi, .dat yi, .dat yi, .dat yi, .arr 3648, .dat yi, .dat yi]), obs := [Zu, (902705, .arr 3 yi), (3648, .arr 3 yi)] } }, [(6, { acts := [], S := { slots := [1, 4, 5, 7, 8, 9, 42, 43], sh := Zbd, obs := [Zu, (902705, .arr 3 yi)] } })], (yh [] .nil), Int × (Int × (Int × (Int × (Int × (Y1 × (Y2 × (Y1 × Y1))))))), Int × (Int × Yas), Int × Yg, fun k v => (((), (k.1, ((), (v.1, (v.2.1, (v.2.2.1, (k.2.1, (v.2.2.2.1, (k.2.2.1, (k.2.2.2.1, ((), (k.2.2.2.2.1, (v.2.2.2.2, ()))))))))))))), ((k.2.2.2.2.2.1, (k.2.2.2.2.2.2.1, ())), (k.2.2.2.2.2.2.2.1, (k.2.2.2.2.2.2.2.2, ())))), fun t => (t.1.2.1, (t.1.2.2.2.2.2.2.1, (t.1.2.2.2.2.2.2.2.2.1, (t.1.2.2.2.2.2.2.2.2.2.1, (t.1.2.2.2.2.2.2.2.2.2.2.2.1, (t.2.1.1, (t.2.1.2.1, (t.2.2.1, t.2.2.2.1)))))))), fun t => (t.1.2.2.2.1, (t.1.2.2.2.2.1, (t.1.2.2.2.2.2.1, (t.1.2.2.2.2.2.2.2.1, t.1.2.2.2.2.2.2.2.2.2.2.2.2.1)))), wvs, fun k r => .l (.exit 6 (wav ({ slots := [1, 4, 5, 7, 8, 9, 42, 43], sh := Zbd, obs := [Zu, (902705, .arr 3 yi)] }) (((), (k.1, ((), (r.1, (r.2.1, (r.2.2, (k.2.2.1, (k.2.2.2.1, ())))))))), ((k.2.2.2.2.2.1, (k.2.2.2.2.2.2.1, ())), (k.2.2.2.2.2.2.2.1, ())))))⟩
noncomputable def wvt (k : Int × (Int × Yap)) (v : Int × Yas) : Tr ((Int × Yas) ⊕ Yg) :=
 .t (decide (v.2.2.2 < k.2.1))
 (.g (inR v.2.2.2 (length k.2.2.1)) <|
 .c (Bool) (wsg k.1 v.2.2.2) fun r27_ =>
 .t r27_
 (.c Y1 (F_zl k.2.2.1 k.2.2.2.1 v.2.2.2 k.2.2.2.2) fun r28_ =>
 .c Yas (wadk (k.1, (v.2.2.2, (k.2.1, (v.2.2.2, (((length r28_ : Nat) : Int), (k.2.2.1, (k.2.2.2.1, (k.2.2.2.2, r28_)))))))) (v.1, (v.2.1, (v.2.2.1, ((0 : Int), (0 : Int)))))) fun r52_ =>
 .l (.inl (r52_.1, (r52_.2.1, (r52_.2.2, (wrap .i64 (v.2.2.2 + 1)))))))
 (.c Y1 (F_zl k.2.2.1 k.2.2.2.1 v.2.2.2 k.2.2.2.2) fun r53_ =>
 .c Yas (wadk (k.1, (v.2.2.2, (k.2.1, (v.2.2.2, (((length r53_ : Nat) : Int), (k.2.2.1, (k.2.2.2.1, (k.2.2.2.2, r53_)))))))) (v.1, (v.2.1, (v.2.2.1, ((getD k.2.2.1 (toNat v.2.2.2) 0), (0 : Int)))))) fun r54_ =>
 .l (.inl (r54_.1, (r54_.2.1, (r54_.2.2, (wrap .i64 (v.2.2.2 + 1))))))))
 (.l (.inr (v.1, v.2.2.1)))
noncomputable def wbar (k : Int × (Int × Yap)) (v : Int × Yas) : Option Yg := iter (fun v => (wvt k v).ev) v
noncomputable def wana : LD := ⟨{ acts := [], S := { slots := [1, 4, 5, 7, 8, 9, 42, 43], sh := Zbd, obs := [Zu, (902705, .arr 3 yi)] } }, [(4, { acts := [], S := { slots := [1, 4, 5, 7, 9], sh := (yj [.box 1 0, .dat (.int .u64), .arr 902705, .dat yi, .dat yi]), obs := [Zu, (902705, .arr 3 yi)] } })], (yh [] .nil), Int × (Int × Yap), Int × Yas, Int × (Int), fun k v => (((), (k.1, ((), (v.1, (v.2.1, (v.2.2.1, (k.2.1, (v.2.2.2, ())))))))), ((k.2.2.1, (k.2.2.2.1, ())), (k.2.2.2.2, ()))), fun t => (t.1.2.1, (t.1.2.2.2.2.2.2.1, (t.2.1.1, (t.2.1.2.1, t.2.2.1)))), fun t => (t.1.2.2.2.1, (t.1.2.2.2.2.1, (t.1.2.2.2.2.2.1, t.1.2.2.2.2.2.2.2.1))), wvt, fun k r => .l (.exit 4 (wav ({ slots := [1, 4, 5, 7, 9], sh := (yj [.box 1 0, .dat (.int .u64), .arr 902705, .dat yi, .dat yi]), obs := [Zu, (902705, .arr 3 yi)] }) (((), (k.1, ((), (r.1, (r.2, ()))))), ((k.2.2.1, (k.2.2.2.1, ())), (k.2.2.2.2, ())))))⟩
noncomputable def wadl (k : Y1 × Y2) (v : Int × Y1) : Tr (Yj ⊕ (Int)) :=
 .t (decide ((0 : Int) < ((length v.2 : Nat) : Int)))
 (.c Yg (wbar (v.1, (((length k.1 : Nat) : Int), (k.1, (k.2, v.2)))) ((-1 : Int), ((0 : Int), ((1 : Int), (0 : Int))))) fun r61_ =>
 .g (decide (0 ≤ r61_.1)) <|
 .c Y1 (F_zl k.1 k.2 r61_.1 v.2) fun r62_ =>
 .g (decide (0 ≤ r61_.2) && decide (r61_.2 ≤ ((length r62_ : Nat) : Int))) <|
 .c Y1 (wavo (fun h63_ => Option.bind (F_zt h63_.1 (List.drop 0 (List.take (toNat r61_.2) r62_))) fun y64_ => some y64_) v.2) fun r65_ =>
 .l (.inl ((wrap .u64 (BitVec.toNat ((BitVec.ofInt Zb v.1) ||| (BitVec.ofInt Zb (wrap .u64 ((1 : Int) * 2 ^ (min (toNat r61_.1) Zb))))))), r65_)))
 (.l (.inr v.1))
noncomputable def wqt (k : Y1 × Y2) (v : Int × Y1) : Option (Int) := iter (fun v => (wadl k v).ev) v
noncomputable def wanb : LD := ⟨{ acts := [.drop 902705, .pin 5 902705], S := { slots := [1, 4, 5], sh := (yj [.box 1 0, .dat (.int .u64), .arr 902705]), obs := [Zu, (902705, .arr 3 yi)] } }, [(2, (yh [4] Zar))], (yh [] .nil), Y1 × Y2, Int × Y1, Int, fun k v => (((), (v.1, ((), ()))), ((k.1, (k.2, ())), (v.2, ()))), fun t => (t.2.1.1, t.2.1.2.1), fun t => (t.1.2.1, t.2.2.1), wadl, fun _ r => .l (.exit 2 (wav ((ys [4] Zar)) ((r, ()), ())))⟩
noncomputable def T_zs (a1_ : Y1) (a2_ : List Y1) : Tr Yan :=
 .c (Bool) (F_zu a1_ a2_) fun r1_ =>
 .t (!r1_)
 (.l (false, ([] : Y1)))
 (.t (((length a2_ : Nat) : Int) == (0 : Int))
 (.c (Int) (F_zh a1_ a2_) fun r2_ =>
 .l (true, ([r2_] : Y1)))
 (.c Y1 (wbaq ((0 : Int), (((length a2_ : Nat) : Int), (a1_, a2_))) ((0 : Int), ([] : Y1))) fun r13_ =>
 .c (Int) (wqt (a1_, a2_) ((0 : Int), r13_)) fun r67_ =>
 .c Y1 (woj r67_) fun r68_ =>
 .l (true, r68_)))
noncomputable def F_zs (a1_ : Y1) (a2_ : List Y1) : Option Yan := (T_zs a1_ a2_).ev
noncomputable def K_zs : RetK := { acts := [.own 2 0 3 yi, .ren 24 0, .ren 7744 0], res := [.tmp 2, .tmp 3], sh := (yj [.arr 0, .dat .bool]), obs := [Zav], pins := [] }
noncomputable def D_zs : FD := yd (yj [.agg Zf]) [] [] Yan (fun x => F_zs x.1.1.1 x.1.1.2.1) (fun r => ([.arr 0, .dat .bool r.1], [(0, .arr 3 yi r.2)]))
def Z_zs : Nat → Nat → List Nat := fun r i => match look [(28, [(5, [114])])] r with
 | some l => (look l i).getD []
 | none => []
noncomputable def E_zs : Env := wac [(157, D_zu), (162, D_zh), (143, wamq), (163, D_zl), (164, wavp), (144, wahi), (164, wavp), (165, D_zt)]
noncomputable def O_zs : List (Nat × LD) := [(0, wamy), (6, wamz), (4, wana), (2, wanb)]
noncomputable def C_zs : Code := (f71.body).getD .skip
noncomputable def wbgq (a1_ : Int) (a2_ : Int) (a3_ : Int) : Tr (Bool) :=
 .t (decide (a2_ ≤ a1_))
 (.l (decide (a1_ ≤ a3_)))
 (.l false)
noncomputable def wahj (a1_ : Int) (a2_ : Int) (a3_ : Int) : Option (Bool) := (wbgq a1_ a2_ a3_).ev
noncomputable def wbzu : RetK := yr [.tmp 6] Zm
noncomputable def wanc : FD := yd (yj [.dat yi, .dat yi, .dat yi]) [] [] Bool (fun x => wahj x.1.1 x.1.2.1 x.1.2.2.1) (fun r => ([.dat .bool r], []))
noncomputable def wok (k : Y1 × Yg) (v : Int) : Tr ((Int) ⊕ ((Unit) ⊕ (Unit))) :=
 .t (decide (v < ((length k.1 : Nat) : Int)))
 (.g (inR v (length k.1)) <|
 .c (Bool) (wahj (getD k.1 (toNat v) 0) (0 : Int) k.2.2) fun r5_ =>
 .t (!r5_)
 (.l (.inr (.inr ())))
 (.l (.inl (wrap .i64 (v + 1)))))
 (.l (.inr (.inl ())))
noncomputable def wand (k : Y1 × Yg) (v : Int) : Option ((Unit) ⊕ (Unit)) := iter (fun v => (wok k v).ev) v
noncomputable def wadm : LD := ⟨(yh [0, 1, 2, 7] (yj [.dat y1, .dat yi, .dat yi, .dat yi])), [(0, (yh [0, 1] (yj [.dat y1, .dat yi])))], (yh [6] Zm), Y1 × Yg, Int, (Unit) ⊕ (Unit), fun k v => ((k.1, (k.2.1, (k.2.2, (v, ())))), ()), fun t => (t.1.1, (t.1.2.1, t.1.2.2.1)), fun t => t.1.2.2.2.1, wok, fun k r => .s (Unit) (Unit) r (fun _ => .l (.exit 0 (wav ((ys [0, 1] (yj [.dat y1, .dat yi]))) ((k.1, (k.2.1, ())), ())))) (fun _ => .l (.ret (wav ((ys [6] Zm)) ((false, ()), ()))))⟩
noncomputable def wbgr (a1_ : Y1) (a2_ : Int) (a3_ : Int) : Tr (Bool) :=
 .c ((Unit) ⊕ (Unit)) (wand (a1_, (a2_, a3_)) (0 : Int)) fun r9_ =>
 .s (Unit) (Unit) r9_
 (fun _ => .l (((length a1_ : Nat) : Int) == a2_))
 (fun _ => .l false)
noncomputable def wane (a1_ : Y1) (a2_ : Int) (a3_ : Int) : Option (Bool) := (wbgr a1_ a2_ a3_).ev
noncomputable def wbzv : RetK := yr [.tmp 6] Zm
noncomputable def wbgs : FD := yd Zat [] [] Bool (fun x => wane x.1.1 x.1.2.1 x.1.2.2.1) (fun r => ([.dat .bool r], []))
noncomputable def wbgt : Env := wac [(130, wanc)]
noncomputable def wbgu : List (Nat × LD) := [(0, wadm)]
noncomputable def wbgv : Code := (f200.body).getD .skip
noncomputable def wol (k : Int × Yai) (v : Int) : Tr ((Int) ⊕ ((Unit) ⊕ (Unit))) :=
 .t (decide (v < ((length k.2.2 : Nat) : Int)))
 (.g (inR v (length k.2.2)) <|
 .c (Bool) (wane (getD k.2.2 (toNat v) ([] : Y1)) k.1 (99 : Int)) fun r5_ =>
 .t (!r5_)
 (.l (.inr (.inr ())))
 (.l (.inl (wrap .i64 (v + 1)))))
 (.l (.inr (.inl ())))
noncomputable def wanf (k : Int × Yai) (v : Int) : Option ((Unit) ⊕ (Unit)) := iter (fun v => (wol k v).ev) v
noncomputable def wadn : LD := ⟨{ acts := [], S := { slots := [1, 3, 4], sh := (yj [.box 1 0, .dat yi, .dat yi]), obs := [Zu] } }, [(0, { acts := [], S := { slots := [1, 3], sh := (yj [.box 1 0, .dat yi]), obs := [Zu] } })], (yh [2] Zm), Int × Yai, Int, (Unit) ⊕ (Unit), fun k v => (((), (k.1, (v, ()))), ((k.2.1, (k.2.2, ())), ())), fun t => (t.1.2.1, (t.2.1.1, t.2.1.2.1)), fun t => t.1.2.2.1, wol, fun k r => .s (Unit) (Unit) r (fun _ => .l (.exit 0 (wav ({ slots := [1, 3], sh := (yj [.box 1 0, .dat yi]), obs := [Zu] }) (((), (k.1, ())), ((k.2.1, (k.2.2, ())), ()))))) (fun _ => .l (.ret (wav ((ys [2] Zm)) ((false, ()), ()))))⟩
noncomputable def wbgw (a1_ : Y1) (a2_ : List Y1) : Tr (Bool) :=
 .c ((Unit) ⊕ (Unit)) (wanf (((length a1_ : Nat) : Int), (a1_, a2_)) (0 : Int)) fun r10_ =>
 .s (Unit) (Unit) r10_
 (fun _ => .c (Bool) (wahj ((length a1_ : Nat) : Int) (1 : Int) (7 : Int)) fun r13_ =>
 .t r13_
 (.c (Bool) (wane a1_ ((length a1_ : Nat) : Int) (99 : Int)) fun r14_ =>
 .t r14_
 (.l (decide (((length a2_ : Nat) : Int) ≤ (7 : Int))))
 (.l false))
 (.l false))
 (fun _ => .l false)
noncomputable def wang (a1_ : Y1) (a2_ : List Y1) : Option (Bool) := (wbgw a1_ a2_).ev
noncomputable def wbzw : RetK := yr [.tmp 2] Zm
noncomputable def wavs : FD := yd (yj [.agg Zf]) [] [] Bool (fun x => wang x.1.1.1 x.1.1.2.1) (fun r => ([.dat .bool r], []))
noncomputable def wbgx : Env := wac [(200, wbgs), (130, wanc)]
noncomputable def wbgy : List (Nat × LD) := [(0, wadn)]
noncomputable def wbgz : Code := (f166.body).getD .skip
noncomputable def wom (k : Y1 × Y2) (v : Int × Int) : Tr (Yg ⊕ (Int)) :=
 .t (decide (v.2 < ((length k.1 : Nat) : Int)))
 (.g (inR v.2 (length k.1)) <|
 .g (inR v.1 (length k.1)) <|
 .t (decide ((getD k.1 (toNat v.2) 0) < (getD k.1 (toNat v.1) 0)))
 (.l (.inl (v.2, (wrap .i64 (v.2 + 1)))))
 (.l (.inl (v.1, (wrap .i64 (v.2 + 1))))))
 (.l (.inr v.1))
noncomputable def wanh (k : Y1 × Y2) (v : Int × Int) : Option (Int) := iter (fun v => (wom k v).ev) v
noncomputable def wado : LD := ⟨{ acts := [], S := { slots := [1, 3, 4], sh := (yj [.box 1 0, .dat yi, .dat yi]), obs := [Zu] } }, [(0, (yh [3] Zh))], (yh [] .nil), Y1 × Y2, Int × (Int), Int, fun k v => (((), (v.1, (v.2, ()))), ((k.1, (k.2, ())), ())), fun t => (t.2.1.1, t.2.1.2.1), fun t => (t.1.2.1, t.1.2.2.1), wom, fun _ r => .l (.exit 0 (wav ((ys [3] Zh)) ((r, ()), ())))⟩
noncomputable def wbha (a1_ : Y1) (a2_ : List Y1) : Tr (Int) :=
 .c (Int) (wanh (a1_, a2_) ((0 : Int), (1 : Int))) fun r6_ =>
 .l r6_
noncomputable def wavt (a1_ : Y1) (a2_ : List Y1) : Option (Int) := (wbha a1_ a2_).ev
noncomputable def wbzx : RetK := yr [.tmp 2] Zh
noncomputable def wbhb : FD := yd (yj [.agg Zf]) [] [] Int (fun x => wavt x.1.1.1 x.1.1.2.1) (fun r => ([.dat yi r], []))
noncomputable def wbhc : Env := wac []
noncomputable def wbhd : List (Nat × LD) := [(0, wado)]
noncomputable def wbhe : Code := (f167.body).getD .skip
noncomputable def won (k : Y1 × Int) (v : Int) : Tr ((Int) ⊕ ((Unit) ⊕ (Unit))) :=
 .t (decide (v < ((length k.1 : Nat) : Int)))
 (.g (inR v (length k.1)) <|
 .t ((getD k.1 (toNat v) 0) == k.2)
 (.l (.inr (.inr ())))
 (.l (.inl (wrap .i64 (v + 1)))))
 (.l (.inr (.inl ())))
noncomputable def wani (k : Y1 × Int) (v : Int) : Option ((Unit) ⊕ (Unit)) := iter (fun v => (won k v).ev) v
noncomputable def wadp : LD := ⟨(yh [0, 1, 5] Zat), [(0, (yh [] .nil))], (yh [4] Zm), Y1 × (Int), Int, (Unit) ⊕ (Unit), fun k v => ((k.1, (k.2, (v, ()))), ()), fun t => (t.1.1, t.1.2.1), fun t => t.1.2.2.1, won, fun _ r => .s (Unit) (Unit) r (fun _ => .l (.exit 0 (wav ((ys [] .nil)) ((), ())))) (fun _ => .l (.ret (wav ((ys [4] Zm)) ((true, ()), ()))))⟩
noncomputable def wbhf (a1_ : Y1) (a2_ : Int) : Tr (Bool) :=
 .c ((Unit) ⊕ (Unit)) (wani (a1_, a2_) (0 : Int)) fun r5_ =>
 .s (Unit) (Unit) r5_
 (fun _ => .l false)
 (fun _ => .l true)
noncomputable def wsi (a1_ : Y1) (a2_ : Int) : Option (Bool) := (wbhf a1_ a2_).ev
noncomputable def wbzy : RetK := yr [.tmp 4] Zm
noncomputable def wanj : FD := yd (yj [.dat y1, .dat yi]) [] [] Bool (fun x => wsi x.1.1 x.1.2.1) (fun r => ([.dat .bool r], []))
noncomputable def wbhg : Env := wac []
noncomputable def wbhh : List (Nat × LD) := [(0, wadp)]
noncomputable def wbhi : Code := (f112.body).getD .skip
noncomputable def woo (k : Y1 × (Int × (Y1 × Yn))) (v : Int) : Tr ((Int) ⊕ (Int)) :=
 .t (decide (v < ((length k.2.2.1 : Nat) : Int)))
 (.g (inR v (length k.2.2.1)) <|
 .g (inR (getD k.2.2.1 (toNat v) 0) (length k.2.2.2.2.2)) <|
 .g (inR k.2.1 (length (getD k.2.2.2.2.2 (toNat (getD k.2.2.1 (toNat v) 0)) ([] : Y1)))) <|
 .g (inR k.2.2.2.1 (length k.1)) <|
 .g (inR (getD k.1 (toNat k.2.2.2.1) 0) (length k.2.2.2.2.2)) <|
 .g (inR k.2.1 (length (getD k.2.2.2.2.2 (toNat (getD k.1 (toNat k.2.2.2.1) 0)) ([] : Y1)))) <|
 .t (decide ((getD (getD k.2.2.2.2.2 (toNat (getD k.2.2.1 (toNat v) 0)) ([] : Y1)) (toNat k.2.1) (0 : Int)) ≤ (getD (getD k.2.2.2.2.2 (toNat (getD k.1 (toNat k.2.2.2.1) 0)) ([] : Y1)) (toNat k.2.1) (0 : Int))))
 (.l (.inl (wrap .i64 (v + 1))))
 (.l (.inr v)))
 (.l (.inr v))
noncomputable def wzh (k : Y1 × (Int × (Y1 × Yn))) (v : Int) : Option (Int) := iter (fun v => (woo k v).ev) v
noncomputable def wadq : LD := ⟨{ acts := [], S := { slots := [1, 2, 3, 7, 8, 9], sh := (yj [.dat y1, .dat yi, .box 3 0, .dat y1, .dat yi, .dat yi]), obs := [(3, .cells Zf)] } }, [(2, { acts := [], S := { slots := [1, 2, 3, 7, 8, 9], sh := (yj [.dat y1, .dat yi, .box 3 0, .dat y1, .dat yi, .dat yi]), obs := [(3, .cells Zf)] } })], (yh [] .nil), Y1 × (Int × (Y1 × Yn)), Int, Int, fun k v => ((k.1, (k.2.1, ((), (k.2.2.1, (k.2.2.2.1, (v, ())))))), ((k.2.2.2.2.1, (k.2.2.2.2.2, ())), ())), fun t => (t.1.1, (t.1.2.1, (t.1.2.2.2.1, (t.1.2.2.2.2.1, (t.2.1.1, t.2.1.2.1))))), fun t => t.1.2.2.2.2.2.1, woo, fun k r => .l (.exit 2 (wav ({ slots := [1, 2, 3, 7, 8, 9], sh := (yj [.dat y1, .dat yi, .box 3 0, .dat y1, .dat yi, .dat yi]), obs := [(3, .cells Zf)] }) ((k.1, (k.2.1, ((), (k.2.2.1, (k.2.2.2.1, (r, ())))))), ((k.2.2.2.2.1, (k.2.2.2.2.2, ())), ()))))⟩
noncomputable def wop (k : Y1 × Yn) (v : Y1 × Int) : Tr ((Y1 × Int) ⊕ Y1) :=
 .t (decide (v.2 < ((length k.1 : Nat) : Int)))
 (.c (Int) (wzh (k.1, (k.2.1, (v.1, (v.2, (k.2.2.1, k.2.2.2))))) (0 : Int)) fun r43_ =>
 .g (decide (0 ≤ r43_) && decide (r43_ ≤ ((length v.1 : Nat) : Int))) <|
 .c Y1 (wkh (List.drop 0 (List.take (toNat r43_) v.1))) fun r44_ =>
 .g (inR v.2 (length k.1)) <|
 .g (decide ((length r44_ + length ([(getD k.1 (toNat v.2) 0)] : Y1)) * 8 ≤ 140737488355328)) <|
 .g (decide (0 ≤ r43_) && decide (r43_ ≤ ((length v.1 : Nat) : Int))) <|
 .g (decide ((length (r44_ ++ ([(getD k.1 (toNat v.2) 0)] : Y1)) + length (List.drop (toNat r43_) (List.take (length v.1) v.1))) * 8 ≤ 140737488355328)) <|
 .l (.inl (((r44_ ++ ([(getD k.1 (toNat v.2) 0)] : Y1)) ++ (List.drop (toNat r43_) (List.take (length v.1) v.1))), (wrap .i64 (v.2 + 1)))))
 (.l (.inr v.1))
noncomputable def wank (k : Y1 × Yn) (v : Y1 × Int) : Option Y1 := iter (fun v => (wop k v).ev) v
noncomputable def wadr : LD := ⟨{ acts := [.fz 10, .fz 3264], S := { slots := [1, 2, 3, 7, 8], sh := (yj [.dat y1, .dat yi, .box 3 0, .dat y1, .dat yi]), obs := [(3, .cells Zf)] } }, [(0, (yh [7] (yj [.dat y1])))], (yh [] .nil), Y1 × Yn, Y1 × (Int), Y1, fun k v => ((k.1, (k.2.1, ((), (v.1, (v.2, ()))))), ((k.2.2.1, (k.2.2.2, ())), ())), fun t => (t.1.1, (t.1.2.1, (t.2.1.1, t.2.1.2.1))), fun t => (t.1.2.2.2.1, t.1.2.2.2.2.1), wop, fun _ r => .l (.exit 0 (wav ((ys [7] (yj [.dat y1]))) ((r, ()), ())))⟩
noncomputable def wbhj (a1_ : Y1) (a2_ : List Y1) (a3_ : Y1) (a4_ : Int) : Tr Y1 :=
 .c Y1 (wank (a3_, (a4_, (a1_, a2_))) (([] : Y1), (0 : Int))) fun r46_ =>
 .l r46_
noncomputable def wanl (a1_ : Y1) (a2_ : List Y1) (a3_ : Y1) (a4_ : Int) : Option Y1 := (wbhj a1_ a2_ a3_ a4_).ev
noncomputable def wbzz : RetK := yr [.tmp 6] (yj [.dat y1])
noncomputable def wbhk : FD := yd (yj [.agg Zf, .dat y1, .dat yi]) [] [] Y1 (fun x => wanl x.1.1.1 x.1.1.2.1 x.1.2.1 x.1.2.2.1) (fun r => ([.dat y1 r], []))
noncomputable def wavu : Nat → Nat → List Nat := fun r i => match look [(8, [(0, [7])])] r with
 | some l => (look l i).getD []
 | none => []
noncomputable def wavv : Env := wac [(173, wyx)]
noncomputable def wavw : List (Nat × LD) := [(2, wadq), (0, wadr)]
noncomputable def wavx : Code := (f224.body).getD .skip
noncomputable def woq (k : Y1 × (Y1 × (Int × (Y1 × (Y1 × (Y2 × Yg)))))) (v : Int × (Int × Yr)) : Tr ((Int × (Int × Yr)) ⊕ Yr) :=
 .t (decide (v.2.1 ≤ ((length k.2.2.2.1 : Nat) : Int)))
 (.g (inR (wrap .i64 (v.2.1 - 1)) (length k.2.2.2.1)) <|
 .g (inR (getD k.2.2.2.1 (toNat (wrap .i64 (v.2.1 - 1))) (0 : Int)) (length k.2.2.2.2.2.1)) <|
 .g (inR k.2.2.1 (length (getD k.2.2.2.2.2.1 (toNat (getD k.2.2.2.1 (toNat (wrap .i64 (v.2.1 - 1))) (0 : Int))) ([] : Y1)))) <|
 .t (((length v.2.2.2.1 : Nat) : Int) == (0 : Int))
 (.g (decide (0 ≤ v.2.1) && decide (v.2.1 ≤ ((length k.2.2.2.1 : Nat) : Int))) <|
 .c Y1 (wkh (List.drop 0 (List.take (toNat v.2.1) k.2.2.2.1))) fun r81_ =>
 .l (.inl ((wrap .i64 (v.1 + (getD (getD k.2.2.2.2.2.1 (toNat (getD k.2.2.2.1 (toNat (wrap .i64 (v.2.1 - 1))) (0 : Int))) ([] : Y1)) (toNat k.2.2.1) (0 : Int)))), ((wrap .i64 (v.2.1 + 1)), (k.2.2.1, (r81_, (wrap .i64 (v.1 + (getD (getD k.2.2.2.2.2.1 (toNat (getD k.2.2.2.1 (toNat (wrap .i64 (v.2.1 - 1))) (0 : Int))) ([] : Y1)) (toNat k.2.2.1) (0 : Int))))))))))
 (.t (decide ((wrap .i64 ((wrap .i64 (v.1 + (getD (getD k.2.2.2.2.2.1 (toNat (getD k.2.2.2.1 (toNat (wrap .i64 (v.2.1 - 1))) (0 : Int))) ([] : Y1)) (toNat k.2.2.1) (0 : Int)))) * ((length v.2.2.2.1 : Nat) : Int))) < (wrap .i64 (v.2.2.2.2 * v.2.1))))
 (.g (decide (0 ≤ v.2.1) && decide (v.2.1 ≤ ((length k.2.2.2.1 : Nat) : Int))) <|
 .c Y1 (wkh (List.drop 0 (List.take (toNat v.2.1) k.2.2.2.1))) fun r82_ =>
 .l (.inl ((wrap .i64 (v.1 + (getD (getD k.2.2.2.2.2.1 (toNat (getD k.2.2.2.1 (toNat (wrap .i64 (v.2.1 - 1))) (0 : Int))) ([] : Y1)) (toNat k.2.2.1) (0 : Int)))), ((wrap .i64 (v.2.1 + 1)), (k.2.2.1, (r82_, (wrap .i64 (v.1 + (getD (getD k.2.2.2.2.2.1 (toNat (getD k.2.2.2.1 (toNat (wrap .i64 (v.2.1 - 1))) (0 : Int))) ([] : Y1)) (toNat k.2.2.1) (0 : Int))))))))))
 (.t ((wrap .i64 ((wrap .i64 (v.1 + (getD (getD k.2.2.2.2.2.1 (toNat (getD k.2.2.2.1 (toNat (wrap .i64 (v.2.1 - 1))) (0 : Int))) ([] : Y1)) (toNat k.2.2.1) (0 : Int)))) * ((length v.2.2.2.1 : Nat) : Int))) == (wrap .i64 (v.2.2.2.2 * v.2.1)))
 (.t (v.2.2.1 == k.2.2.1)
 (.g (decide (0 ≤ v.2.1) && decide (v.2.1 ≤ ((length k.2.2.2.1 : Nat) : Int))) <|
 .c Y1 (wkh (List.drop 0 (List.take (toNat v.2.1) k.2.2.2.1))) fun r83_ =>
 .l (.inl ((wrap .i64 (v.1 + (getD (getD k.2.2.2.2.2.1 (toNat (getD k.2.2.2.1 (toNat (wrap .i64 (v.2.1 - 1))) (0 : Int))) ([] : Y1)) (toNat k.2.2.1) (0 : Int)))), ((wrap .i64 (v.2.1 + 1)), (k.2.2.1, (r83_, (wrap .i64 (v.1 + (getD (getD k.2.2.2.2.2.1 (toNat (getD k.2.2.2.1 (toNat (wrap .i64 (v.2.1 - 1))) (0 : Int))) ([] : Y1)) (toNat k.2.2.1) (0 : Int))))))))))
 (.l (.inl ((wrap .i64 (v.1 + (getD (getD k.2.2.2.2.2.1 (toNat (getD k.2.2.2.1 (toNat (wrap .i64 (v.2.1 - 1))) (0 : Int))) ([] : Y1)) (toNat k.2.2.1) (0 : Int)))), ((wrap .i64 (v.2.1 + 1)), (v.2.2.1, (v.2.2.2.1, v.2.2.2.2)))))))
 (.l (.inl ((wrap .i64 (v.1 + (getD (getD k.2.2.2.2.2.1 (toNat (getD k.2.2.2.1 (toNat (wrap .i64 (v.2.1 - 1))) (0 : Int))) ([] : Y1)) (toNat k.2.2.1) (0 : Int)))), ((wrap .i64 (v.2.1 + 1)), (v.2.2.1, (v.2.2.2.1, v.2.2.2.2)))))))))
 (.l (.inr (v.2.2.1, (v.2.2.2.1, v.2.2.2.2))))
noncomputable def wsj (k : Y1 × (Y1 × (Int × (Y1 × (Y1 × (Y2 × Yg)))))) (v : Int × (Int × Yr)) : Option Yr := iter (fun v => (woq k v).ev) v
noncomputable def wads : LD := ⟨{ acts := [.fz 5568], S := { slots := [1, 2, 3, 6, 7, 8, 9, 10, 11], sh := (yj [.dat y1, .dat y1, .box 3 0, .box 6 0, .box 7 0, .dat yi, .dat yi, .dat y1, .dat yi]), obs := [(3, .cells Zf), Zaz, Zad] } }, [(2, { acts := [], S := { slots := [1, 2, 3, 6, 7, 8], sh := (yj [.dat y1, .dat y1, .box 3 0, .box 6 0, .box 7 0, .dat yi]), obs := [(3, .cells Zf), Zaz, Zad] } })], (yh [] .nil), Y1 × (Y1 × (Int × (Y1 × (Y1 × (Y2 × Yg))))), Int × (Int × Yr), Int × (Y1 × Int), fun k v => ((k.1, (k.2.1, ((), ((), ((), (k.2.2.1, (v.1, (k.2.2.2.1, (v.2.1, ()))))))))), ((k.2.2.2.2.1, (k.2.2.2.2.2.1, ())), ((k.2.2.2.2.2.2.1, ((), (k.2.2.2.2.2.2.2, ()))), ((v.2.2.1, (v.2.2.2.1, (v.2.2.2.2, ()))), ())))), fun t => (t.1.1, (t.1.2.1, (t.1.2.2.2.2.2.1, (t.1.2.2.2.2.2.2.2.1, (t.2.1.1, (t.2.1.2.1, (t.2.2.1.1, t.2.2.1.2.2.1))))))), fun t => (t.1.2.2.2.2.2.2.1, (t.1.2.2.2.2.2.2.2.2.1, (t.2.2.2.1.1, (t.2.2.2.1.2.1, t.2.2.2.1.2.2.1)))), woq, fun k r => .l (.exit 2 (wav ({ slots := [1, 2, 3, 6, 7, 8], sh := (yj [.dat y1, .dat y1, .box 3 0, .box 6 0, .box 7 0, .dat yi]), obs := [(3, .cells Zf), Zaz, Zad] }) ((k.1, (k.2.1, ((), ((), ((), (k.2.2.1, ())))))), ((k.2.2.2.2.1, (k.2.2.2.2.2.1, ())), ((k.2.2.2.2.2.2.1, ((), (k.2.2.2.2.2.2.2, ()))), ((r.1, (r.2.1, (r.2.2, ()))), ()))))))⟩
noncomputable def wor (k : Y1 × (Y1 × (Y1 × (Y2 × Yg)))) (v : Int × Yr) : Tr ((Int × Yr) ⊕ Yr) :=
 .t (decide (v.1 < ((length k.2.2.1 : Nat) : Int)))
 (.g (inR v.1 (length k.2.2.1)) <|
 .c (Bool) (wsi k.2.1 v.1) fun r66_ =>
 .t r66_
 (.c Y1 (wanl k.2.2.1 k.2.2.2.1 k.1 v.1) fun r67_ =>
 .c Yr (wsj (k.1, (k.2.1, (v.1, (r67_, (k.2.2.1, (k.2.2.2.1, (k.2.2.2.2.1, k.2.2.2.2.2))))))) ((0 : Int), ((1 : Int), (v.2.1, (v.2.2.1, v.2.2.2))))) fun r94_ =>
 .l (.inl ((wrap .i64 (v.1 + 1)), (r94_.1, (r94_.2.1, r94_.2.2)))))
 (.c Y1 (wanl k.2.2.1 k.2.2.2.1 k.1 v.1) fun r95_ =>
 .c Yr (wsj (k.1, (k.2.1, (v.1, (r95_, (k.2.2.1, (k.2.2.2.1, (k.2.2.2.2.1, k.2.2.2.2.2))))))) ((getD k.2.2.1 (toNat v.1) 0), ((1 : Int), (v.2.1, (v.2.2.1, v.2.2.2))))) fun r96_ =>
 .l (.inl ((wrap .i64 (v.1 + 1)), (r96_.1, (r96_.2.1, r96_.2.2))))))
 (.l (.inr (v.2.1, (v.2.2.1, v.2.2.2))))
noncomputable def wanm (k : Y1 × (Y1 × (Y1 × (Y2 × Yg)))) (v : Int × Yr) : Option Yr := iter (fun v => (wor k v).ev) v
noncomputable def wadt : LD := ⟨{ acts := [], S := { slots := [1, 2, 3, 6, 7, 8], sh := (yj [.dat y1, .dat y1, .box 3 0, .box 6 0, .box 7 0, .dat yi]), obs := [(3, .cells Zf), Zaz, Zad] } }, [(0, { acts := [], S := { slots := [6, 7], sh := (yj [.box 6 0, .box 7 0]), obs := [Zaz, Zad] } })], (yh [] .nil), Y1 × (Y1 × (Y1 × (Y2 × Yg))), Int × Yr, Int × (Y1 × Int), fun k v => ((k.1, (k.2.1, ((), ((), ((), (v.1, ())))))), ((k.2.2.1, (k.2.2.2.1, ())), ((k.2.2.2.2.1, ((), (k.2.2.2.2.2, ()))), ((v.2.1, (v.2.2.1, (v.2.2.2, ()))), ())))), fun t => (t.1.1, (t.1.2.1, (t.2.1.1, (t.2.1.2.1, (t.2.2.1.1, t.2.2.1.2.2.1))))), fun t => (t.1.2.2.2.2.2.1, (t.2.2.2.1.1, (t.2.2.2.1.2.1, t.2.2.2.1.2.2.1))), wor, fun k r => .l (.exit 0 (wav ({ slots := [6, 7], sh := (yj [.box 6 0, .box 7 0]), obs := [Zaz, Zad] }) (((), ((), ())), ((k.2.2.2.2.1, ((), (k.2.2.2.2.2, ()))), ((r.1, (r.2.1, (r.2.2, ()))), ())))))⟩
noncomputable def wbhl (a1_ : Y1) (a2_ : List Y1) (a3_ : Y1) (a4_ : Y1) : Tr Yr :=
 .c Yr (wanm (a3_, (a4_, (a1_, (a2_, ((0 : Int), (0 : Int)))))) ((0 : Int), ((0 : Int), (([] : Y1), (0 : Int))))) fun r102_ =>
 .l (r102_.1, (r102_.2.1, r102_.2.2))
noncomputable def wavy (a1_ : Y1) (a2_ : List Y1) (a3_ : Y1) (a4_ : Y1) : Option Yr := (wbhl a1_ a2_ a3_ a4_).ev
noncomputable def wcaa : RetK := yr [.cell 6 159] (yj [.agg (yj [.dat yi, .dat y1, .dat yi])])
noncomputable def wbhm : FD := yd (yj [.agg Zf, .dat y1, .dat y1]) [] [] Yr (fun x => wavy x.1.1.1 x.1.1.2.1 x.1.2.1 x.1.2.2.1) (fun r => ([.agg [.dat yi r.1, .dat y1 r.2.1, .dat yi r.2.2]], []))
noncomputable def wavz : Env := wac [(112, wanj), (224, wbhk), (173, wyx)]
noncomputable def wawa : List (Nat × LD) := [(2, wads), (0, wadt)]
noncomputable def wawb : Code := (f168.body).getD .skip
noncomputable def wkn (k : Y1 × Int) (v : Int) : Tr ((Int) ⊕ (Int)) :=
 .t (decide (v < ((length k.1 : Nat) : Int)))
 (.g (inR v (length k.1)) <|
 .t (decide ((getD k.1 (toNat v) 0) < k.2))
 (.l (.inl (wrap .i64 (v + 1))))
 (.l (.inr v)))
 (.l (.inr v))
noncomputable def wzi (k : Y1 × Int) (v : Int) : Option (Int) := iter (fun v => (wkn k v).ev) v
noncomputable def wadu : LD := ⟨(yh [0, 1, 5] Zat), [(0, (yh [0, 1, 5] Zat))], (yh [] .nil), Y1 × (Int), Int, Int, fun k v => ((k.1, (k.2, (v, ()))), ()), fun t => (t.1.1, t.1.2.1), fun t => t.1.2.2.1, wkn, fun k r => .l (.exit 0 (wav ((ys [0, 1, 5] Zat)) ((k.1, (k.2, (r, ()))), ())))⟩
noncomputable def wbhn (a1_ : Y1) (a2_ : Int) : Tr Y1 :=
 .c (Int) (wzi (a1_, a2_) (0 : Int)) fun r7_ =>
 .t (decide (r7_ < ((length a1_ : Nat) : Int)))
 (.g (inR r7_ (length a1_)) <|
 .t ((getD a1_ (toNat r7_) 0) == a2_)
 (.f)
 (.g (decide (0 ≤ r7_) && decide (r7_ ≤ ((length a1_ : Nat) : Int))) <|
 .g (decide ((length ([] : Y1) + length (List.drop 0 (List.take (toNat r7_) a1_))) * 8 ≤ 140737488355328)) <|
 .g (decide ((length (([] : Y1) ++ (List.drop 0 (List.take (toNat r7_) a1_))) + length ([a2_] : Y1)) * 8 ≤ 140737488355328)) <|
 .g (decide (0 ≤ r7_) && decide (r7_ ≤ ((length a1_ : Nat) : Int))) <|
 .g (decide ((length ((([] : Y1) ++ (List.drop 0 (List.take (toNat r7_) a1_))) ++ ([a2_] : Y1)) + length (List.drop (toNat r7_) (List.take (length a1_) a1_))) * 8 ≤ 140737488355328)) <|
 .l (((([] : Y1) ++ (List.drop 0 (List.take (toNat r7_) a1_))) ++ ([a2_] : Y1)) ++ (List.drop (toNat r7_) (List.take (length a1_) a1_)))))
 (.g (decide (0 ≤ r7_) && decide (r7_ ≤ ((length a1_ : Nat) : Int))) <|
 .g (decide ((length ([] : Y1) + length (List.drop 0 (List.take (toNat r7_) a1_))) * 8 ≤ 140737488355328)) <|
 .g (decide ((length (([] : Y1) ++ (List.drop 0 (List.take (toNat r7_) a1_))) + length ([a2_] : Y1)) * 8 ≤ 140737488355328)) <|
 .g (decide (0 ≤ r7_) && decide (r7_ ≤ ((length a1_ : Nat) : Int))) <|
 .g (decide ((length ((([] : Y1) ++ (List.drop 0 (List.take (toNat r7_) a1_))) ++ ([a2_] : Y1)) + length (List.drop (toNat r7_) (List.take (length a1_) a1_))) * 8 ≤ 140737488355328)) <|
 .l (((([] : Y1) ++ (List.drop 0 (List.take (toNat r7_) a1_))) ++ ([a2_] : Y1)) ++ (List.drop (toNat r7_) (List.take (length a1_) a1_))))
noncomputable def wzj (a1_ : Y1) (a2_ : Int) : Option Y1 := (wbhn a1_ a2_).ev
noncomputable def wcab : RetK := { acts := [.ren 33 0], res := [.tmp 4], sh := (yj [.arr 0]), obs := [Zav], pins := [] }
noncomputable def wawc : FD := yd (yj [.dat y1, .dat yi]) [] [] Y1 (fun x => wzj x.1.1 x.1.2.1) (fun r => ([.arr 0], [(0, .arr 3 yi r)]))
noncomputable def wbho : Nat → Nat → List Nat := fun r i => match look [(5, [(1, [140000000])])] r with
 | some l => (look l i).getD []
 | none => []
noncomputable def wbhp : Env := wac []
noncomputable def wbhq : List (Nat × LD) := [(0, wadu)]
noncomputable def wbhr : Code := (f169.body).getD .skip
noncomputable def wos (k : Y1 × (Y2 × Y1)) (v : Int × Y1) : Tr (Yj ⊕ Y1) :=
 .t (decide (v.1 < ((length k.2.1 : Nat) : Int)))
 (.g (decide ((length v.2 + length ([v.1] : Y1)) * 8 ≤ 140737488355328)) <|
 .l (.inl ((wrap .i64 (v.1 + 1)), (v.2 ++ ([v.1] : Y1)))))
 (.l (.inr v.2))
noncomputable def wann (k : Y1 × (Y2 × Y1)) (v : Int × Y1) : Option Y1 := iter (fun v => (wos k v).ev) v
noncomputable def wadv : LD := ⟨{ acts := [], S := { slots := [1, 4, 5, 6], sh := (yj [.box 1 0, .arr 21, .arr 22, .dat yi]), obs := [Zu, (21, .arr 3 yi), (22, .arr 3 yi)] } }, [(0, { acts := [], S := { slots := [1, 4, 5], sh := (yj [.box 1 0, .arr 21, .arr 22]), obs := [Zu, (21, .arr 3 yi), (22, .arr 3 yi)] } })], (yh [] .nil), Y1 × (Y2 × Y1), Int × Y1, Y1, fun k v => (((), ((), ((), (v.1, ())))), ((k.1, (k.2.1, ())), (k.2.2, (v.2, ())))), fun t => (t.2.1.1, (t.2.1.2.1, t.2.2.1)), fun t => (t.1.2.2.2.1, t.2.2.2.1), wos, fun k r => .l (.exit 0 (wav ({ slots := [1, 4, 5], sh := (yj [.box 1 0, .arr 21, .arr 22]), obs := [Zu, (21, .arr 3 yi), (22, .arr 3 yi)] }) (((), ((), ((), ()))), ((k.1, (k.2.1, ())), (k.2.2, (r, ()))))))⟩
noncomputable def wko (k : Y1 × (Y1 × (Y1 × (Y2 × Yr)))) (v : Int × Y1) : Tr (Yj ⊕ Y1) :=
 .t (decide (v.1 < ((length k.2.1 : Nat) : Int)))
 (.g (inR v.1 (length k.2.1)) <|
 .c (Bool) (wsi k.2.2.2.2.2.1 (getD k.2.1 (toNat v.1) 0)) fun r77_ =>
 .t (!r77_)
 (.g (inR v.1 (length k.2.1)) <|
 .g (decide ((length v.2 + length ([(getD k.2.1 (toNat v.1) 0)] : Y1)) * 8 ≤ 140737488355328)) <|
 .l (.inl ((wrap .i64 (v.1 + 1)), (v.2 ++ ([(getD k.2.1 (toNat v.1) 0)] : Y1)))))
 (.l (.inl ((wrap .i64 (v.1 + 1)), v.2))))
 (.l (.inr v.2))
noncomputable def wzk (k : Y1 × (Y1 × (Y1 × (Y2 × Yr)))) (v : Int × Y1) : Option Y1 := iter (fun v => (wko k v).ev) v
noncomputable def wadw : LD := ⟨{ acts := [], S := { slots := [1, 4, 5, 7, 8, 9], sh := (yj [.box 1 0, .dat y1, .dat y1, .box 7 0, .arr 41, .dat yi]), obs := [Zu, Zad, (41, .arr 3 yi)] } }, [(4, { acts := [], S := { slots := [1, 4, 7, 8], sh := (yj [.box 1 0, .dat y1, .box 7 0, .arr 41]), obs := [Zu, Zad, (41, .arr 3 yi)] } })], (yh [] .nil), Y1 × (Y1 × (Y1 × (Y2 × Yr))), Int × Y1, Y1, fun k v => (((), (k.1, (k.2.1, ((), ((), (v.1, ())))))), ((k.2.2.1, (k.2.2.2.1, ())), ((k.2.2.2.2.1, (k.2.2.2.2.2.1, (k.2.2.2.2.2.2, ()))), (v.2, ())))), fun t => (t.1.2.1, (t.1.2.2.1, (t.2.1.1, (t.2.1.2.1, (t.2.2.1.1, (t.2.2.1.2.1, t.2.2.1.2.2.1)))))), fun t => (t.1.2.2.2.2.2.1, t.2.2.2.1), wko, fun k r => .l (.exit 4 (wav ({ slots := [1, 4, 7, 8], sh := (yj [.box 1 0, .dat y1, .box 7 0, .arr 41]), obs := [Zu, Zad, (41, .arr 3 yi)] }) (((), (k.1, ((), ((), ())))), ((k.2.2.1, (k.2.2.2.1, ())), ((k.2.2.2.2.1, (k.2.2.2.2.2.1, (k.2.2.2.2.2.2, ()))), (r, ()))))))⟩
noncomputable def wsk (k : Y1 × Y2) (v : Y1 × Y1) : Tr ((Y1 × Y1) ⊕ Y1) :=
 .t (decide ((0 : Int) < ((length v.2 : Nat) : Int)))
 (.c Yr (wavy k.1 k.2 v.2 v.1) fun r67_ =>
 .c Y1 (wzk (v.1, (v.2, (k.1, (k.2, (r67_.1, (r67_.2.1, r67_.2.2)))))) ((0 : Int), ([] : Y1))) fun r85_ =>
 .c (Bool) (wsi v.1 r67_.1) fun r86_ =>
 .t (!r86_)
 (.c Y1 (wzj v.1 r67_.1) fun r87_ =>
 .l (.inl (r87_, r85_)))
 (.l (.inl (v.1, r85_))))
 (.l (.inr v.1))
noncomputable def wot (k : Y1 × Y2) (v : Y1 × Y1) : Option Y1 := iter (fun v => (wsk k v).ev) v
noncomputable def wadx : LD := ⟨{ acts := [.fz 21, .fz 22, .fz 4608, .fz 41], S := { slots := [1, 4, 5], sh := (yj [.box 1 0, .dat y1, .dat y1]), obs := [Zu] } }, [(2, (yh [4] (yj [.dat y1])))], (yh [] .nil), Y1 × Y2, Y1 × Y1, Y1, fun k v => (((), (v.1, (v.2, ()))), ((k.1, (k.2, ())), ())), fun t => (t.2.1.1, t.2.1.2.1), fun t => (t.1.2.1, t.1.2.2.1), wsk, fun _ r => .l (.exit 2 (wav ((ys [4] (yj [.dat y1]))) ((r, ()), ())))⟩
noncomputable def wbhs (a1_ : Y1) (a2_ : List Y1) : Tr (Y1 × (Bool)) :=
 .c (Bool) (wang a1_ a2_) fun r1_ =>
 .t (!r1_)
 (.l (([] : Y1), false))
 (.t (((length a2_ : Nat) : Int) == (0 : Int))
 (.c (Int) (wavt a1_ a2_) fun r2_ =>
 .l (([r2_] : Y1), true))
 (.c Y1 (wann (a1_, (a2_, ([] : Y1))) ((0 : Int), ([] : Y1))) fun r12_ =>
 .c Y1 (wot (a1_, a2_) (([] : Y1), r12_)) fun r89_ =>
 .l (r89_, true)))
noncomputable def wawd (a1_ : Y1) (a2_ : List Y1) : Option (Y1 × (Bool)) := (wbhs a1_ a2_).ev
noncomputable def wcac : RetK := { acts := [.fz 13, .fz 20], res := [.tmp 2, .tmp 3], sh := (yj [.dat y1, .dat .bool]), obs := [], pins := [] }
noncomputable def wbht : FD := yd (yj [.agg Zf]) [] [] (Y1 × (Bool)) (fun x => wawd x.1.1.1 x.1.1.2.1) (fun r => ([.dat y1 r.1, .dat .bool r.2], []))
noncomputable def wano : Nat → Nat → List Nat := fun r i => match look [(11, [(3, [38, 39])])] r with
 | some l => (look l i).getD []
 | none => []
noncomputable def wanp : Env := wac [(166, wavs), (167, wbhb), (168, wbhm), (112, wanj), (169, wawc)]
noncomputable def wanq : List (Nat × LD) := [(0, wadv), (4, wadw), (2, wadx)]
noncomputable def wanr : Code := (f72.body).getD .skip
noncomputable def wbhu (a1_ : Y1) (a2_ : Int) : Tr Y1 :=
 .t (decide (((length a1_ : Nat) : Int) < a2_))
 (.g (decide ((0 : Int) ≤ ((length a1_ : Nat) : Int)) && decide (((length a1_ : Nat) : Int) ≤ ((length a1_ : Nat) : Int))) <|
 .g (decide ((length ([] : Y1) + length (List.drop (toNat ((length a1_ : Nat) : Int)) (List.take (length a1_) a1_))) * 1 ≤ 140737488355328)) <|
 .g (decide ((length (([] : Y1) ++ (List.drop (toNat ((length a1_ : Nat) : Int)) (List.take (length a1_) a1_))) + length ([(wrap .u8 ((length a1_ : Nat) : Int))] : Y1)) * 1 ≤ 140737488355328)) <|
 .l ((([] : Y1) ++ (List.drop (toNat ((length a1_ : Nat) : Int)) (List.take (length a1_) a1_))) ++ ([(wrap .u8 ((length a1_ : Nat) : Int))] : Y1)))
 (.g (decide (0 ≤ a2_) && decide (a2_ ≤ ((length a1_ : Nat) : Int))) <|
 .g (decide ((length ([] : Y1) + length (List.drop (toNat a2_) (List.take (length a1_) a1_))) * 1 ≤ 140737488355328)) <|
 .g (decide ((length (([] : Y1) ++ (List.drop (toNat a2_) (List.take (length a1_) a1_))) + length ([(wrap .u8 a2_)] : Y1)) * 1 ≤ 140737488355328)) <|
 .l ((([] : Y1) ++ (List.drop (toNat a2_) (List.take (length a1_) a1_))) ++ ([(wrap .u8 a2_)] : Y1)))
noncomputable def wans (a1_ : Y1) (a2_ : Int) : Option Y1 := (wbhu a1_ a2_).ev
noncomputable def wcad : RetK := { acts := [.ren 11 0], res := [.tmp 4], sh := (yj [.arr 0]), obs := [(0, .arr 5 (.int .u8))], pins := [] }
noncomputable def wbhv : FD := yd (yj [.dat Zaf, .dat yi]) [] [] Y1 (fun x => wans x.1.1 x.1.2.1) (fun r => ([.arr 0], [(0, .arr 5 (.int .u8) r)]))
noncomputable def wbhw (a4_ : Int) (a1_ : Y1) (a2_ : Int) (a3_ : Int) : Tr (Bool × (Y1 × Yg)) :=
 .c Yw (whg a4_ a1_ a2_ a3_) fun r1_ =>
 .l ((r1_.1 == 0), (r1_.2.1, (r1_.2.2.1, r1_.2.2.2)))
noncomputable def wpx (a4_ : Int) (a1_ : Y1) (a2_ : Int) (a3_ : Int) : Option (Bool × (Y1 × Yg)) := (wbhw a4_ a1_ a2_ a3_).ev
noncomputable def wcae : RetK := { acts := [], res := [.tmp 4], sh := Zm, obs := [Ze], pins := [(0, 0, 64)] }
noncomputable def wanu : FD := yd (yj [.box 64 0, .dat yi]) [Ze] [.arg 0] (Bool × (Y1 × Yg)) (fun x => wpx x.1.2.1 x.2.1.1 x.2.1.2.1 x.2.1.2.2.1) (fun r => ([.dat .bool r.1], [(64, .cells [.dat Zaf r.2.1, .dat yi r.2.2.1, .dat (.int .u64) r.2.2.2])]))
noncomputable def wawe (a1_ : Y1) (a2_ : Int) (a3_ : Int) : Tr Yk :=
 .c (Bool × (Y1 × Yg)) (wpx (12 : Int) a1_ a2_ a3_) fun r1_ =>
 .t r1_.1
 (.c Yk (wami r1_.2.1 r1_.2.2.1 r1_.2.2.2) fun r2_ =>
 .l (r2_.1, (r2_.2.1, (r2_.2.2.1, (r2_.2.2.2.1, r2_.2.2.2.2)))))
 (.c (Bool × (Y1 × Yg)) (wpx (2 : Int) r1_.2.1 r1_.2.2.1 r1_.2.2.2) fun r3_ =>
 .t r3_.1
 (.c Yk (walt (7 : Int) r3_.2.1 r3_.2.2.1 r3_.2.2.2) fun r4_ =>
 .l (r4_.1, (r4_.2.1, (r4_.2.2.1, (r4_.2.2.2.1, r4_.2.2.2.2)))))
 (.c Yk (wyw (7 : Int) r3_.2.1 r3_.2.2.1 r3_.2.2.2) fun r5_ =>
 .c Yai (wamh r5_.1 r5_.2.1) fun r6_ =>
 .l (r6_.1, (r6_.2, (r5_.2.2.1, (r5_.2.2.2.1, r5_.2.2.2.2))))))
noncomputable def wawf (a1_ : Y1) (a2_ : Int) (a3_ : Int) : Option Yk := (wawe a1_ a2_ a3_).ev
noncomputable def wcaf : RetK := { acts := [.ren 385 1, .ren 641 1, .ren 833 1, .ren 387 3, .ren 642 3, .ren 836 3], res := [.cell 2 27], sh := (yj [.agg (yj [.arr 1, .arr 3])]), obs := [(1, .arr 3 yi), (3, .rows 24 3 yi), Ze], pins := [(0, 0, 64)] }
noncomputable def wawg : FD := yd (yj [.box 64 0]) [Ze] [.arg 0] Yk (fun x => wawf x.2.1.1 x.2.1.2.1 x.2.1.2.2.1) (fun r => ([.agg [.arr 1, .arr 3]], [(1, .arr 3 yi r.1), (3, .rows 24 3 yi r.2.1 none), (64, .cells [.dat Zaf r.2.2.1, .dat yi r.2.2.2.1, .dat (.int .u64) r.2.2.2.2])]))
noncomputable def wkp (k : Int × Int) (v : Int × Y1) : Tr (Yj ⊕ Y1) :=
 .t (decide (v.1 < k.1))
 (.g (decide (0 ≤ v.1)) <|
 .t ((wrap .i64 (BitVec.toNat ((BitVec.ofInt (IntKind.bits .i64) (Int.fdiv k.2 (2 ^ (min (toNat v.1) (IntKind.bits .i64))))) &&& (BitVec.ofInt (IntKind.bits .i64) (1 : Int))))) == (1 : Int))
 (.g (decide ((length v.2 + length ([v.1] : Y1)) * 8 ≤ 140737488355328)) <|
 .l (.inl ((wrap .i64 (v.1 + 1)), (v.2 ++ ([v.1] : Y1)))))
 (.l (.inl ((wrap .i64 (v.1 + 1)), v.2))))
 (.l (.inr v.2))
noncomputable def wanv (k : Int × Int) (v : Int × Y1) : Option Y1 := iter (fun v => (wkp k v).ev) v
noncomputable def wady : LD := ⟨{ acts := [], S := { slots := [0, 1, 5, 6], sh := (yj [.dat yi, .dat yi, .arr 7, .dat yi]), obs := [(7, .arr 3 yi)] } }, [(0, { acts := [], S := { slots := [5], sh := (yj [.arr 7]), obs := [(7, .arr 3 yi)] } })], (yh [] .nil), Int × (Int), Int × Y1, Y1, fun k v => ((k.1, (k.2, ((), (v.1, ())))), (v.2, ())), fun t => (t.1.1, t.1.2.1), fun t => (t.1.2.2.2.1, t.2.1), wkp, fun _ r => .l (.exit 0 (wav ({ slots := [5], sh := (yj [.arr 7]), obs := [(7, .arr 3 yi)] }) (((), ()), (r, ()))))⟩
noncomputable def wbhx (a1_ : Int) (a2_ : Int) : Tr Y1 :=
 .c Y1 (wanv (a1_, a2_) ((0 : Int), ([] : Y1))) fun r6_ =>
 .l r6_
noncomputable def wanw (a1_ : Int) (a2_ : Int) : Option Y1 := (wbhx a1_ a2_).ev
noncomputable def wcag : RetK := { acts := [.ren 7 0], res := [.tmp 4], sh := (yj [.arr 0]), obs := [Zav], pins := [] }
noncomputable def wbhy : FD := yd (yj [.dat yi, .dat yi]) [] [] Y1 (fun x => wanw x.1.1 x.1.2.1) (fun r => ([.arr 0], [(0, .arr 3 yi r)]))
noncomputable def wbhz : Env := wac []
noncomputable def wbia : List (Nat × LD) := [(0, wady)]
noncomputable def wbib : Code := (f119.body).getD .skip
noncomputable def wawh (a4_ : Y1) (_a5_ : List Y1) (a1_ : Y1) (a2_ : Int) (a3_ : Int) : Tr (Y1 × (Y1 × Yg)) :=
 .c (Int) (wamc ((length a4_ : Nat) : Int) (7 : Int)) fun r1_ =>
 .g (decide (0 ≤ r1_)) <|
 .c Yw (whg (wrap .i64 ((1 : Int) * 2 ^ (min (toNat r1_) (IntKind.bits .i64)))) a1_ a2_ a3_) fun r2_ =>
 .c Y1 (wanw r1_ (wrap .i64 ((1 : Int) + r2_.1))) fun r3_ =>
 .c (Bool × (Y1 × Yg)) (wpx (20 : Int) r2_.2.1 r2_.2.2.1 r2_.2.2.2) fun r4_ =>
 .t r4_.1
 (.c Yw (wpw ([(-1 : Int), (0 : Int), r1_] : Y1) r4_.2.1 r4_.2.2.1 r4_.2.2.2) fun r5_ =>
 .g (decide ((length r3_ + length ([r5_.1] : Y1)) * 8 ≤ 140737488355328)) <|
 .t (((length (r3_ ++ ([r5_.1] : Y1)) : Nat) : Int) == (0 : Int))
 (.t (decide (0 < r1_))
 (.c (Bool × (Y1 × Yg)) (wpx (6 : Int) r5_.2.1 r5_.2.2.1 r5_.2.2.2) fun r6_ =>
 .t (!r6_.1)
 (.c Yw (whg r1_ r6_.2.1 r6_.2.2.1 r6_.2.2.2) fun r7_ =>
 .l (([r7_.1] : Y1), (r7_.2.1, (r7_.2.2.1, r7_.2.2.2))))
 (.l ((r3_ ++ ([r5_.1] : Y1)), (r6_.2.1, (r6_.2.2.1, r6_.2.2.2)))))
 (.l ((r3_ ++ ([r5_.1] : Y1)), (r5_.2.1, (r5_.2.2.1, r5_.2.2.2)))))
 (.l ((r3_ ++ ([r5_.1] : Y1)), (r5_.2.1, (r5_.2.2.1, r5_.2.2.2)))))
 (.t (((length r3_ : Nat) : Int) == (0 : Int))
 (.t (decide (0 < r1_))
 (.c (Bool × (Y1 × Yg)) (wpx (6 : Int) r4_.2.1 r4_.2.2.1 r4_.2.2.2) fun r8_ =>
 .t (!r8_.1)
 (.c Yw (whg r1_ r8_.2.1 r8_.2.2.1 r8_.2.2.2) fun r9_ =>
 .l (([r9_.1] : Y1), (r9_.2.1, (r9_.2.2.1, r9_.2.2.2))))
 (.l (r3_, (r8_.2.1, (r8_.2.2.1, r8_.2.2.2)))))
 (.l (r3_, (r4_.2.1, (r4_.2.2.1, r4_.2.2.2)))))
 (.l (r3_, (r4_.2.1, (r4_.2.2.1, r4_.2.2.2)))))
noncomputable def wawi (a4_ : Y1) (a5_ : List Y1) (a1_ : Y1) (a2_ : Int) (a3_ : Int) : Option (Y1 × (Y1 × Yg)) := (wawh a4_ a5_ a1_ a2_ a3_).ev
noncomputable def wcah : RetK := { acts := [.pin 4 0], res := [.tmp 4], sh := (yj [.arr 0]), obs := [Zav, Ze], pins := [(0, 0, 64)] }
noncomputable def wawj : FD := yd (yj [.box 64 0, .agg Zf]) [Ze] [.arg 0] (Y1 × (Y1 × Yg)) (fun x => wawi x.1.2.1.1 x.1.2.1.2.1 x.2.1.1 x.2.1.2.1 x.2.1.2.2.1) (fun r => ([.arr 0], [(0, .arr 3 yi r.1), (64, .cells [.dat Zaf r.2.1, .dat yi r.2.2.1, .dat (.int .u64) r.2.2.2])]))
noncomputable def wcai : Nat → Nat → List Nat := fun r i => match look [(4, [(4, [23])])] r with
 | some l => (look l i).getD []
 | none => []
noncomputable def wkr (k : Y1 × Yg) (v : Int) : Tr ((Int) ⊕ ((Unit) ⊕ (Unit))) :=
 .t (decide (v < ((length k.1 : Nat) : Int)))
 (.g (inR v (length k.1)) <|
 .c (Bool) (wahj (getD k.1 (toNat v) 0) k.2.1 k.2.2) fun r5_ =>
 .t (!r5_)
 (.l (.inr (.inr ())))
 (.t (decide (0 < v))
 (.g (inR (wrap .i64 (v - 1)) (length k.1)) <|
 .g (inR v (length k.1)) <|
 .t (decide ((getD k.1 (toNat v) 0) ≤ (getD k.1 (toNat (wrap .i64 (v - 1))) (0 : Int))))
 (.l (.inr (.inr ())))
 (.l (.inl (wrap .i64 (v + 1)))))
 (.l (.inl (wrap .i64 (v + 1))))))
 (.l (.inr (.inl ())))
noncomputable def wanx (k : Y1 × Yg) (v : Int) : Option ((Unit) ⊕ (Unit)) := iter (fun v => (wkr k v).ev) v
noncomputable def wadz : LD := ⟨(yh [0, 1, 2, 7] (yj [.dat y1, .dat yi, .dat yi, .dat yi])), [(0, (yh [] .nil))], (yh [6] Zm), Y1 × Yg, Int, (Unit) ⊕ (Unit), fun k v => ((k.1, (k.2.1, (k.2.2, (v, ())))), ()), fun t => (t.1.1, (t.1.2.1, t.1.2.2.1)), fun t => t.1.2.2.2.1, wkr, fun _ r => .s (Unit) (Unit) r (fun _ => .l (.exit 0 (wav ((ys [] .nil)) ((), ())))) (fun _ => .l (.ret (wav ((ys [6] Zm)) ((false, ()), ()))))⟩
noncomputable def wbic (a1_ : Y1) (a2_ : Int) (a3_ : Int) : Tr (Bool) :=
 .c ((Unit) ⊕ (Unit)) (wanx (a1_, (a2_, a3_)) (0 : Int)) fun r7_ =>
 .s (Unit) (Unit) r7_
 (fun _ => .l true)
 (fun _ => .l false)
noncomputable def wawk (a1_ : Y1) (a2_ : Int) (a3_ : Int) : Option (Bool) := (wbic a1_ a2_ a3_).ev
noncomputable def wcaj : RetK := yr [.tmp 6] Zm
noncomputable def wbid : FD := yd Zat [] [] Bool (fun x => wawk x.1.1 x.1.2.1 x.1.2.2.1) (fun r => ([.dat .bool r], []))
noncomputable def wbie : Env := wac [(130, wanc)]
noncomputable def wbif : List (Nat × LD) := [(0, wadz)]
noncomputable def wbig : Code := (f122.body).getD .skip
noncomputable def wbih (a1_ : Y1) (_a2_ : List Y1) (a3_ : Y1) : Tr (Bool) :=
 .c (Bool) (wawk a3_ (0 : Int) (wrap .i64 (((length a1_ : Nat) : Int) - 1))) fun r1_ =>
 .l r1_
noncomputable def wawl (a1_ : Y1) (a2_ : List Y1) (a3_ : Y1) : Option (Bool) := (wbih a1_ a2_ a3_).ev
noncomputable def wcak : RetK := yr [.tmp 4] Zm
noncomputable def wbii : FD := yd (yj [.agg Zf, .dat y1]) [] [] Bool (fun x => wawl x.1.1.1 x.1.1.2.1 x.1.2.1) (fun r => ([.dat .bool r], []))
noncomputable def wbij (a1_ : Y1) (a2_ : List Y1) (a3_ : Y1) : Tr (Bool) :=
 .c (Bool) (wang a1_ a2_) fun r1_ =>
 .t r1_
 (.c (Bool) (wawl a1_ a2_ a3_) fun r2_ =>
 .t r2_
 (.l (decide ((0 : Int) < ((length a3_ : Nat) : Int))))
 (.l false))
 (.l false)
noncomputable def wany (a1_ : Y1) (a2_ : List Y1) (a3_ : Y1) : Option (Bool) := (wbij a1_ a2_ a3_).ev
noncomputable def wcal : RetK := yr [.tmp 4] Zm
noncomputable def wawm : FD := yd (yj [.agg Zf, .dat y1]) [] [] Bool (fun x => wany x.1.1.1 x.1.1.2.1 x.1.2.1) (fun r => ([.dat .bool r], []))
noncomputable def wks (k : Y1 × Int) (v : Int × Y1) : Tr (Yj ⊕ Y1) :=
 .t (decide (v.1 < ((length k.1 : Nat) : Int)))
 (.g (inR v.1 (length k.1)) <|
 .t ((getD k.1 (toNat v.1) 0) != k.2)
 (.g (inR v.1 (length k.1)) <|
 .g (decide ((length v.2 + length ([(getD k.1 (toNat v.1) 0)] : Y1)) * 8 ≤ 140737488355328)) <|
 .l (.inl ((wrap .i64 (v.1 + 1)), (v.2 ++ ([(getD k.1 (toNat v.1) 0)] : Y1)))))
 (.l (.inl ((wrap .i64 (v.1 + 1)), v.2))))
 (.l (.inr v.2))
noncomputable def wzl (k : Y1 × Int) (v : Int × Y1) : Option Y1 := iter (fun v => (wks k v).ev) v
noncomputable def waea : LD := ⟨{ acts := [], S := { slots := [0, 1, 5, 6], sh := (yj [.dat y1, .dat yi, .arr 7, .dat yi]), obs := [(7, .arr 3 yi)] } }, [(0, { acts := [], S := { slots := [5], sh := (yj [.arr 7]), obs := [(7, .arr 3 yi)] } })], (yh [] .nil), Y1 × (Int), Int × Y1, Y1, fun k v => ((k.1, (k.2, ((), (v.1, ())))), (v.2, ())), fun t => (t.1.1, t.1.2.1), fun t => (t.1.2.2.2.1, t.2.1), wks, fun _ r => .l (.exit 0 (wav ({ slots := [5], sh := (yj [.arr 7]), obs := [(7, .arr 3 yi)] }) (((), ()), (r, ()))))⟩
noncomputable def wbik (a1_ : Y1) (a2_ : Int) : Tr Y1 :=
 .c Y1 (wzl (a1_, a2_) ((0 : Int), ([] : Y1))) fun r6_ =>
 .l r6_
noncomputable def wawn (a1_ : Y1) (a2_ : Int) : Option Y1 := (wbik a1_ a2_).ev
noncomputable def wcam : RetK := { acts := [.ren 7 0], res := [.tmp 4], sh := (yj [.arr 0]), obs := [Zav], pins := [] }
noncomputable def wbil : FD := yd (yj [.dat y1, .dat yi]) [] [] Y1 (fun x => wawn x.1.1 x.1.2.1) (fun r => ([.arr 0], [(0, .arr 3 yi r)]))
noncomputable def wbim : Env := wac []
noncomputable def wbin : List (Nat × LD) := [(0, waea)]
noncomputable def wbio : Code := (f245.body).getD .skip
noncomputable def wkt (k : Y1 × (Int × ((Nat) × (Y1 × (Y2 × (Y2 × Y2)))))) (v : Int × Y2) : Tr ((Int × Y2) ⊕ Y2) :=
 .t (decide (v.1 < ((length k.2.2.2.1 : Nat) : Int)))
 (.c (Bool) (wsi k.1 v.1) fun r20_ =>
 .t (!r20_)
 (.c Y1 (wzj (getD k.2.2.2.2.2.2 k.2.2.1 ([] : Y1)) v.1) fun r21_ =>
 .g (decide ((length v.2 + 1) * 24 ≤ 140737488355328)) <|
 .l (.inl ((wrap .i64 (v.1 + 1)), (set (v.2 ++ [[]]) (length v.2) r21_))))
 (.l (.inl ((wrap .i64 (v.1 + 1)), v.2))))
 (.l (.inr v.2))
noncomputable def wanz (k : Y1 × (Int × ((Nat) × (Y1 × (Y2 × (Y2 × Y2)))))) (v : Int × Y2) : Option Y2 := iter (fun v => (wkt k v).ev) v
noncomputable def waeb : LD := ⟨{ acts := [], S := { slots := [1, 2, 5, 6, 7, 8, 9, 10], sh := (yj [.dat y1, .box 2 0, .arr 11, .arr 12, .arr 13, .dat yi, .row 12, .dat yi]), obs := [(2, .cells Zf), (11, .rows 24 3 yi), (12, .rows 24 3 yi), (13, .rows 24 3 yi)] } }, [(2, { acts := [], S := { slots := [1, 2, 5, 6, 7, 8], sh := Zau, obs := [(2, .cells Zf), (11, .rows 24 3 yi), (12, .rows 24 3 yi), (13, .rows 24 3 yi)] } })], (yh [] .nil), Y1 × (Int × ((Nat) × (Y1 × (Y2 × (Y2 × Y2))))), Int × Y2, List Y1, fun k v => ((k.1, ((), ((), ((), ((), (k.2.1, (k.2.2.1, (v.1, ())))))))), ((k.2.2.2.1, (k.2.2.2.2.1, ())), (k.2.2.2.2.2.1, (k.2.2.2.2.2.2, (v.2, ()))))), fun t => (t.1.1, (t.1.2.2.2.2.2.1, (t.1.2.2.2.2.2.2.1, (t.2.1.1, (t.2.1.2.1, (t.2.2.1, t.2.2.2.1)))))), fun t => (t.1.2.2.2.2.2.2.2.1, t.2.2.2.2.1), wkt, fun k r => .l (.exit 2 (wav ({ slots := [1, 2, 5, 6, 7, 8], sh := Zau, obs := [(2, .cells Zf), (11, .rows 24 3 yi), (12, .rows 24 3 yi), (13, .rows 24 3 yi)] }) ((k.1, ((), ((), ((), ((), (k.2.1, ())))))), ((k.2.2.2.1, (k.2.2.2.2.1, ())), (k.2.2.2.2.2.1, (k.2.2.2.2.2.2, (r, ())))))))⟩
noncomputable def wdc (k : Y1 × (Int × (Y1 × (Y2 × (Y2 × (Y2 × Y1)))))) (v : Int × Y2) : Tr ((Int × Y2) ⊕ Y2) :=
 .t (decide (v.1 < ((length k.2.2.1 : Nat) : Int)))
 (.c (Bool) (wsi k.1 v.1) fun r39_ =>
 .t (!r39_)
 (.c Y1 (wzj k.2.2.2.2.2.2 v.1) fun r40_ =>
 .g (decide ((length v.2 + 1) * 24 ≤ 140737488355328)) <|
 .l (.inl ((wrap .i64 (v.1 + 1)), (set (v.2 ++ [[]]) (length v.2) r40_))))
 (.l (.inl ((wrap .i64 (v.1 + 1)), v.2))))
 (.l (.inr v.2))
noncomputable def wou (k : Y1 × (Int × (Y1 × (Y2 × (Y2 × (Y2 × Y1)))))) (v : Int × Y2) : Option Y2 := iter (fun v => (wdc k v).ev) v
noncomputable def wlu : LD := ⟨{ acts := [], S := { slots := [1, 2, 5, 6, 7, 8, 9, 10], sh := (yj [.dat y1, .box 2 0, .arr 11, .arr 12, .arr 13, .dat yi, .arr 2112, .dat yi]), obs := [(2, .cells Zf), (11, .rows 24 3 yi), (12, .rows 24 3 yi), (13, .rows 24 3 yi), (2112, .arr 3 yi)] } }, [(2, { acts := [], S := { slots := [1, 2, 5, 6, 7, 8], sh := Zau, obs := [(2, .cells Zf), (11, .rows 24 3 yi), (12, .rows 24 3 yi), (13, .rows 24 3 yi)] } })], (yh [] .nil), Y1 × (Int × (Y1 × (Y2 × (Y2 × (Y2 × Y1))))), Int × Y2, List Y1, fun k v => ((k.1, ((), ((), ((), ((), (k.2.1, ((), (v.1, ())))))))), ((k.2.2.1, (k.2.2.2.1, ())), (k.2.2.2.2.1, (k.2.2.2.2.2.1, (v.2, (k.2.2.2.2.2.2, ())))))), fun t => (t.1.1, (t.1.2.2.2.2.2.1, (t.2.1.1, (t.2.1.2.1, (t.2.2.1, (t.2.2.2.1, t.2.2.2.2.2.1)))))), fun t => (t.1.2.2.2.2.2.2.2.1, t.2.2.2.2.1), wdc, fun k r => .l (.exit 2 (wav ({ slots := [1, 2, 5, 6, 7, 8], sh := Zau, obs := [(2, .cells Zf), (11, .rows 24 3 yi), (12, .rows 24 3 yi), (13, .rows 24 3 yi)] }) ((k.1, ((), ((), ((), ((), (k.2.1, ())))))), ((k.2.2.1, (k.2.2.2.1, ())), (k.2.2.2.2.1, (k.2.2.2.2.2.1, (r, ())))))))⟩
noncomputable def whu (k : Y1 × Yai) (v : Int × (Y2 × (Y2 × Y2))) : Tr ((Int × (Y2 × (Y2 × Y2))) ⊕ (Y2 × (Y2 × Y2))) :=
 .t (decide (v.1 < ((length k.2.1 : Nat) : Int)))
 (.c (Bool) (wsi k.1 v.1) fun r8_ =>
 .t (!r8_)
 (.c Y1 (wzj k.1 v.1) fun r9_ =>
 .g (decide ((length v.2.1 + 1) * 24 ≤ 140737488355328)) <|
 .l (.inl ((wrap .i64 (v.1 + 1)), ((set (v.2.1 ++ [[]]) (length v.2.1) r9_), (v.2.2.1, v.2.2.2)))))
 (.c Y1 (wawn k.1 v.1) fun r10_ =>
 .t (decide ((0 : Int) < ((length r10_ : Nat) : Int)))
 (.g (decide ((length v.2.2.1 + 1) * 24 ≤ 140737488355328)) <|
 .c Y2 (wanz (k.1, (v.1, ((length v.2.2.1), (k.2.1, (k.2.2, (v.2.1, (set (v.2.2.1 ++ [[]]) (length v.2.2.1) r10_))))))) ((0 : Int), v.2.2.2)) fun r29_ =>
 .l (.inl ((wrap .i64 (v.1 + 1)), (v.2.1, ((set (v.2.2.1 ++ [[]]) (length v.2.2.1) r10_), r29_)))))
 (.c Y2 (wou (k.1, (v.1, (k.2.1, (k.2.2, (v.2.1, (v.2.2.1, r10_)))))) ((0 : Int), v.2.2.2)) fun r48_ =>
 .l (.inl ((wrap .i64 (v.1 + 1)), (v.2.1, (v.2.2.1, r48_)))))))
 (.l (.inr (v.2.1, (v.2.2.1, v.2.2.2))))
noncomputable def waoa (k : Y1 × Yai) (v : Int × (Y2 × (Y2 × Y2))) : Option (Y2 × (Y2 × Y2)) := iter (fun v => (whu k v).ev) v
noncomputable def waec : LD := ⟨{ acts := [], S := { slots := [1, 2, 5, 6, 7, 8], sh := Zau, obs := [(2, .cells Zf), (11, .rows 24 3 yi), (12, .rows 24 3 yi), (13, .rows 24 3 yi)] } }, [(0, { acts := [], S := { slots := [5, 6, 7], sh := (yj [.arr 11, .arr 12, .arr 13]), obs := [(11, .rows 24 3 yi), (12, .rows 24 3 yi), (13, .rows 24 3 yi)] } })], (yh [] .nil), Y1 × Yai, Int × (Y2 × (Y2 × Y2)), Y2 × (Y2 × Y2), fun k v => ((k.1, ((), ((), ((), ((), (v.1, ())))))), ((k.2.1, (k.2.2, ())), (v.2.1, (v.2.2.1, (v.2.2.2, ()))))), fun t => (t.1.1, (t.2.1.1, t.2.1.2.1)), fun t => (t.1.2.2.2.2.2.1, (t.2.2.1, (t.2.2.2.1, t.2.2.2.2.1))), whu, fun _ r => .l (.exit 0 (wav ({ slots := [5, 6, 7], sh := (yj [.arr 11, .arr 12, .arr 13]), obs := [(11, .rows 24 3 yi), (12, .rows 24 3 yi), (13, .rows 24 3 yi)] }) (((), ((), ((), ()))), (r.1, (r.2.1, (r.2.2, ()))))))⟩
noncomputable def wbip (a1_ : Y1) (a2_ : List Y1) (a3_ : Y1) : Tr Y2 :=
 .c (Y2 × (Y2 × Y2)) (waoa (a3_, (a1_, a2_)) ((0 : Int), (([] : List Y1), (([] : List Y1), ([] : List Y1))))) fun r52_ =>
 .g (decide ((length r52_.1 + length r52_.2.1) * 24 ≤ 140737488355328)) <|
 .g (decide ((length (r52_.1 ++ r52_.2.1) + length r52_.2.2) * 24 ≤ 140737488355328)) <|
 .l ((r52_.1 ++ r52_.2.1) ++ r52_.2.2)
noncomputable def wawo (a1_ : Y1) (a2_ : List Y1) (a3_ : Y1) : Option Y2 := (wbip a1_ a2_ a3_).ev
noncomputable def wcan : RetK := { acts := [.ren 13 0], res := [.tmp 4], sh := (yj [.arr 0]), obs := [(0, .rows 24 3 yi)], pins := [] }
noncomputable def wbiq : FD := yd (yj [.agg Zf, .dat y1]) [] [] (List Y1) (fun x => wawo x.1.1.1 x.1.1.2.1 x.1.2.1) (fun r => ([.arr 0], [(0, .rows 24 3 yi r none)]))
noncomputable def waob : Nat → Nat → List Nat := fun r i => match look [(1, [(0, [1000000]), (1, [1000000]), (2, [1000000])])] r with
 | some l => (look l i).getD []
 | none => []
noncomputable def waoc : Env := wac [(112, wanj), (169, wawc), (245, wbil)]
noncomputable def waod : List (Nat × LD) := [(2, waeb), (2, wlu), (0, waec)]
noncomputable def waoe : Code := (f227.body).getD .skip
noncomputable def wku (k : Int × (Y1 × Yai)) (v : Int × Int) : Tr (Yg ⊕ (Int)) :=
 .t (decide (v.2 < ((length k.2.1 : Nat) : Int)))
 (.g (inR k.1 (length k.2.2.2)) <|
 .g (inR v.2 (length k.2.1)) <|
 .g (inR (getD k.2.1 (toNat v.2) 0) (length (getD k.2.2.2 (toNat k.1) ([] : Y1)))) <|
 .g (inR k.1 (length k.2.2.2)) <|
 .g (inR v.1 (length (getD k.2.2.2 (toNat k.1) ([] : Y1)))) <|
 .t (decide ((getD (getD k.2.2.2 (toNat k.1) ([] : Y1)) (toNat (getD k.2.1 (toNat v.2) 0)) (0 : Int)) < (getD (getD k.2.2.2 (toNat k.1) ([] : Y1)) (toNat v.1) (0 : Int))))
 (.g (inR v.2 (length k.2.1)) <|
 .l (.inl ((getD k.2.1 (toNat v.2) 0), (wrap .i64 (v.2 + 1)))))
 (.l (.inl (v.1, (wrap .i64 (v.2 + 1))))))
 (.l (.inr v.1))
noncomputable def wsl (k : Int × (Y1 × Yai)) (v : Int × Int) : Option (Int) := iter (fun v => (wku k v).ev) v
noncomputable def waed : LD := ⟨{ acts := [], S := { slots := [1, 2, 3, 7, 8], sh := (yj [.dat yi, .dat y1, .box 3 0, .dat yi, .dat yi]), obs := [(3, .cells Zf)] } }, [(0, (yh [7] Zh))], (yh [] .nil), Int × (Y1 × Yai), Int × (Int), Int, fun k v => ((k.1, (k.2.1, ((), (v.1, (v.2, ()))))), ((k.2.2.1, (k.2.2.2, ())), ())), fun t => (t.1.1, (t.1.2.1, (t.2.1.1, t.2.1.2.1))), fun t => (t.1.2.2.2.1, t.1.2.2.2.2.1), wku, fun _ r => .l (.exit 0 (wav ((ys [7] Zh)) ((r, ()), ())))⟩
noncomputable def wbir (a1_ : Y1) (a2_ : List Y1) (a3_ : Int) (a4_ : Y1) : Tr (Int) :=
 .g (inR 0 (length a4_)) <|
 .c (Int) (wsl (a3_, (a4_, (a1_, a2_))) ((getD a4_ (toNat 0) 0), (1 : Int))) fun r8_ =>
 .l r8_
noncomputable def wawp (a1_ : Y1) (a2_ : List Y1) (a3_ : Int) (a4_ : Y1) : Option (Int) := (wbir a1_ a2_ a3_ a4_).ev
noncomputable def wcao : RetK := yr [.tmp 6] Zh
noncomputable def wbis : FD := yd (yj [.agg Zf, .dat yi, .dat y1]) [] [] Int (fun x => wawp x.1.1.1 x.1.1.2.1 x.1.2.1 x.1.2.2.1) (fun r => ([.dat yi r], []))
noncomputable def wbit : Env := wac []
noncomputable def wbiu : List (Nat × LD) := [(0, waed)]
noncomputable def wbiv : Code := (f262.body).getD .skip
noncomputable def wbiw (a1_ : Y1) (a2_ : List Y1) (a3_ : Int) (a4_ : Y1) : Tr (Int) :=
 .g (inR a3_ (length a2_)) <|
 .c (Int) (wawp a1_ a2_ a3_ a4_) fun r1_ =>
 .g (inR r1_ (length (getD a2_ (toNat a3_) ([] : Y1)))) <|
 .l (getD (getD a2_ (toNat a3_) ([] : Y1)) (toNat r1_) (0 : Int))
noncomputable def wawq (a1_ : Y1) (a2_ : List Y1) (a3_ : Int) (a4_ : Y1) : Option (Int) := (wbiw a1_ a2_ a3_ a4_).ev
noncomputable def wcap : RetK := yr [.tmp 6] Zh
noncomputable def wbix : FD := yd (yj [.agg Zf, .dat yi, .dat y1]) [] [] Int (fun x => wawq x.1.1.1 x.1.1.2.1 x.1.2.1 x.1.2.2.1) (fun r => ([.dat yi r], []))
noncomputable def wov (k : Y1 × Yai) (v : Int × Int) : Tr (Yg ⊕ (Int)) :=
 .t (decide (v.2 < ((length k.2.2 : Nat) : Int)))
 (.c (Int) (wawq k.2.1 k.2.2 v.2 k.1) fun r6_ =>
 .l (.inl ((wrap .i64 (v.1 + r6_)), (wrap .i64 (v.2 + 1)))))
 (.l (.inr v.1))
noncomputable def waof (k : Y1 × Yai) (v : Int × Int) : Option (Int) := iter (fun v => (wov k v).ev) v
noncomputable def waee : LD := ⟨{ acts := [], S := { slots := [1, 2, 5, 6], sh := (yj [.dat y1, .box 2 0, .dat yi, .dat yi]), obs := [(2, .cells Zf)] } }, [(0, (yh [5] Zh))], (yh [] .nil), Y1 × Yai, Int × (Int), Int, fun k v => ((k.1, ((), (v.1, (v.2, ())))), ((k.2.1, (k.2.2, ())), ())), fun t => (t.1.1, (t.2.1.1, t.2.1.2.1)), fun t => (t.1.2.2.1, t.1.2.2.2.1), wov, fun _ r => .l (.exit 0 (wav ((ys [5] Zh)) ((r, ()), ())))⟩
noncomputable def wbiy (a1_ : Y1) (a2_ : List Y1) (a3_ : Y1) : Tr (Int) :=
 .c (Int) (waof (a3_, (a1_, a2_)) ((0 : Int), (0 : Int))) fun r8_ =>
 .l r8_
noncomputable def wawr (a1_ : Y1) (a2_ : List Y1) (a3_ : Y1) : Option (Int) := (wbiy a1_ a2_ a3_).ev
noncomputable def wcaq : RetK := yr [.tmp 4] Zh
noncomputable def wbiz : FD := yd (yj [.agg Zf, .dat y1]) [] [] Int (fun x => wawr x.1.1.1 x.1.1.2.1 x.1.2.1) (fun r => ([.dat yi r], []))
noncomputable def wbja : Env := wac [(239, wbix)]
noncomputable def wbjb : List (Nat × LD) := [(0, waee)]
noncomputable def wbjc : Code := (f190.body).getD .skip
noncomputable def wow (k : Y1 × Yai) (v : Int × Int) : Tr (Yg ⊕ (Int)) :=
 .t (decide (v.2 < ((length k.1 : Nat) : Int)))
 (.g (inR v.2 (length k.1)) <|
 .g (inR (getD k.1 (toNat v.2) 0) (length k.2.1)) <|
 .l (.inl ((wrap .i64 (v.1 + (getD k.2.1 (toNat (getD k.1 (toNat v.2) 0)) (0 : Int)))), (wrap .i64 (v.2 + 1)))))
 (.l (.inr v.1))
noncomputable def waog (k : Y1 × Yai) (v : Int × Int) : Option (Int) := iter (fun v => (wow k v).ev) v
noncomputable def waef : LD := ⟨{ acts := [], S := { slots := [1, 2, 5, 6], sh := (yj [.dat y1, .box 2 0, .dat yi, .dat yi]), obs := [(2, .cells Zf)] } }, [(0, (yh [5] Zh))], (yh [] .nil), Y1 × Yai, Int × (Int), Int, fun k v => ((k.1, ((), (v.1, (v.2, ())))), ((k.2.1, (k.2.2, ())), ())), fun t => (t.1.1, (t.2.1.1, t.2.1.2.1)), fun t => (t.1.2.2.1, t.1.2.2.2.1), wow, fun _ r => .l (.exit 0 (wav ((ys [5] Zh)) ((r, ()), ())))⟩
noncomputable def wbjd (a1_ : Y1) (a2_ : List Y1) (a3_ : Y1) : Tr (Int) :=
 .c (Int) (waog (a3_, (a1_, a2_)) ((0 : Int), (0 : Int))) fun r7_ =>
 .l r7_
noncomputable def waws (a1_ : Y1) (a2_ : List Y1) (a3_ : Y1) : Option (Int) := (wbjd a1_ a2_ a3_).ev
noncomputable def wcar : RetK := yr [.tmp 4] Zh
noncomputable def wbje : FD := yd (yj [.agg Zf, .dat y1]) [] [] Int (fun x => waws x.1.1.1 x.1.1.2.1 x.1.2.1) (fun r => ([.dat yi r], []))
noncomputable def wbjf : Env := wac []
noncomputable def wbjg : List (Nat × LD) := [(0, waef)]
noncomputable def wbjh : Code := (f191.body).getD .skip
noncomputable def wbji (a1_ : Y1) (a2_ : List Y1) (a3_ : Y1) : Tr (Int) :=
 .c (Int) (wawr a1_ a2_ a3_) fun r1_ =>
 .c (Int) (waws a1_ a2_ a3_) fun r2_ =>
 .l (wrap .i64 (r1_ + r2_))
noncomputable def wahk (a1_ : Y1) (a2_ : List Y1) (a3_ : Y1) : Option (Int) := (wbji a1_ a2_ a3_).ev
noncomputable def wcas : RetK := yr [.tmp 4] Zh
noncomputable def wbjj : FD := yd (yj [.agg Zf, .dat y1]) [] [] Int (fun x => wahk x.1.1.1 x.1.1.2.1 x.1.2.1) (fun r => ([.dat yi r], []))
noncomputable def wkv (k : Y1 × (Y1 × (Y2 × Y2))) (v : Int) : Tr ((Int) ⊕ ((Unit) ⊕ (Nat))) :=
 .t (decide (v < ((length k.2.2.2 : Nat) : Int)))
 (.g (inR v (length k.2.2.2)) <|
 .g (decide ((toNat v) < length k.2.2.2)) <|
 .c (Int) (wahk k.2.1 k.2.2.1 (getD k.2.2.2 (toNat v) ([] : Y1))) fun r7_ =>
 .c (Int) (wahk k.2.1 k.2.2.1 k.1) fun r8_ =>
 .t (decide (r7_ < r8_))
 (.g (inR v (length k.2.2.2)) <|
 .g (decide ((toNat v) < length k.2.2.2)) <|
 .l (.inr (.inr (toNat v))))
 (.l (.inl (wrap .i64 (v + 1)))))
 (.l (.inr (.inl ())))
noncomputable def waoh (k : Y1 × (Y1 × (Y2 × Y2))) (v : Int) : Option ((Unit) ⊕ (Nat)) := iter (fun v => (wkv k v).ev) v
noncomputable def waeg : LD := ⟨{ acts := [], S := { slots := [1, 2, 6, 7], sh := (yj [.dat y1, .box 2 0, .arr 640, .dat yi]), obs := [(2, .cells Zf), (640, .rows 24 3 yi)] } }, [(0, (yh [] .nil))], { acts := [], S := { slots := [4, 5], sh := (yj [.row 640, .dat .bool]), obs := [(640, .rows 24 3 yi)] } }, Y1 × (Y1 × (Y2 × Y2)), Int, (Unit) ⊕ (Nat), fun k v => ((k.1, ((), ((), (v, ())))), ((k.2.1, (k.2.2.1, ())), (k.2.2.2, ()))), fun t => (t.1.1, (t.2.1.1, (t.2.1.2.1, t.2.2.1))), fun t => t.1.2.2.2.1, wkv, fun k r => .s (Unit) (Nat) r (fun _ => .l (.exit 0 (wav ((ys [] .nil)) ((), ())))) (fun b => .l (.ret (wav ({ slots := [4, 5], sh := (yj [.row 640, .dat .bool]), obs := [(640, .rows 24 3 yi)] }) ((b, (true, ())), (k.2.2.2, ())))))⟩
noncomputable def wbjk (a1_ : Y1) (a2_ : List Y1) (a3_ : Y1) : Tr Yan :=
 .c Y2 (wawo a1_ a2_ a3_) fun r1_ =>
 .c ((Unit) ⊕ (Nat)) (waoh (a3_, (a1_, (a2_, r1_))) (0 : Int)) fun r12_ =>
 .s (Unit) (Nat) r12_
 (fun _ => .l (false, ([] : Y1)))
 (fun r14_ => .l (true, (getD r1_ r14_ ([] : Y1))))
noncomputable def wahl (a1_ : Y1) (a2_ : List Y1) (a3_ : Y1) : Option Yan := (wbjk a1_ a2_ a3_).ev
noncomputable def wcat : RetK := { acts := [.pull 4 800000, .ren 31 0, .ren 800000 0], res := [.tmp 4, .tmp 5], sh := (yj [.arr 0, .dat .bool]), obs := [Zav], pins := [] }
noncomputable def wawt : FD := yd (yj [.agg Zf, .dat y1]) [] [] Yan (fun x => wahl x.1.1.1 x.1.1.2.1 x.1.2.1) (fun r => ([.arr 0, .dat .bool r.1], [(0, .arr 3 yi r.2)]))
noncomputable def wbjl : Env := wac [(227, wbiq), (192, wbjj)]
noncomputable def wbjm : List (Nat × LD) := [(0, waeg)]
noncomputable def wbjn : Code := (f172.body).getD .skip
noncomputable def wox (k : Y1 × Y2) (v : Int × (Bool × (Y1 × Y1))) : Tr ((Int × (Bool × (Y1 × Y1))) ⊕ Yj) :=
 .t v.2.1
 (.c Yan (wahl k.1 k.2 v.2.2.2) fun r10_ =>
 .l (.inl ((wrap .i64 (v.1 + 1)), (r10_.1, (v.2.2.2, r10_.2)))))
 (.l (.inr (v.1, v.2.2.1)))
noncomputable def woy (k : Y1 × Y2) (v : Int × (Bool × (Y1 × Y1))) : Option Yj := iter (fun v => (wox k v).ev) v
noncomputable def waeh : LD := ⟨{ acts := [.drop 900707, .pin 7 900707, .pin 9 900709], S := { slots := [2, 7, 8, 9, 10], sh := (yj [.box 2 0, .arr 900707, .dat yi, .arr 900709, .dat .bool]), obs := [(2, .cells Zf), (900707, .arr 3 yi), (900709, .arr 3 yi)] } }, [(0, { acts := [], S := { slots := [7, 8], sh := (yj [.arr 900707, .dat yi]), obs := [(900707, .arr 3 yi)] } })], (yh [] .nil), Y1 × Y2, Int × (Bool × (Y1 × Y1)), Int × Y1, fun k v => (((), ((), (v.1, ((), (v.2.1, ()))))), ((k.1, (k.2, ())), (v.2.2.1, (v.2.2.2, ())))), fun t => (t.2.1.1, t.2.1.2.1), fun t => (t.1.2.2.1, (t.1.2.2.2.2.1, (t.2.2.1, t.2.2.2.1))), wox, fun _ r => .l (.exit 0 (wav ({ slots := [7, 8], sh := (yj [.arr 900707, .dat yi]), obs := [(900707, .arr 3 yi)] }) (((), (r.1, ())), (r.2, ()))))⟩
noncomputable def wbjo (a1_ : Y1) (a2_ : List Y1) (a3_ : Y1) : Tr (Int × Yan) :=
 .c (Bool) (wany a1_ a2_ a3_) fun r1_ =>
 .t (!r1_)
 (.l ((0 : Int), (false, ([] : Y1))))
 (.c Y1 (wkh a3_) fun r2_ =>
 .c Yan (wahl a1_ a2_ r2_) fun r3_ =>
 .c Yj (woy (a1_, a2_) ((0 : Int), (r3_.1, (r2_, r3_.2)))) fun r13_ =>
 .l (r13_.1, (true, r13_.2)))
noncomputable def wzm (a1_ : Y1) (a2_ : List Y1) (a3_ : Y1) : Option (Int × Yan) := (wbjo a1_ a2_ a3_).ev
noncomputable def wcau : RetK := { acts := [.ren 15 0, .ren 900707 0], res := [.tmp 4, .tmp 5, .tmp 6], sh := (yj [.arr 0, .dat yi, .dat .bool]), obs := [Zav], pins := [] }
noncomputable def wawu : FD := yd (yj [.agg Zf, .dat y1]) [] [] (Int × Yan) (fun x => wzm x.1.1.1 x.1.1.2.1 x.1.2.1) (fun r => ([.arr 0, .dat yi r.1, .dat .bool r.2.1], [(0, .arr 3 yi r.2.2)]))
noncomputable def wbjp : Env := wac [(101, wawm), (173, wyx), (172, wawt)]
noncomputable def wbjq : List (Nat × LD) := [(0, waeh)]
noncomputable def wbjr : Code := (f78.body).getD .skip
end Go.Proofs.YtnagpmhaddfgmaaGreat
