import Derived.Test.YtnagpmhaddfgmaaGreatB37
import Derived.Test.YtnagpmhaddfgmaaGreatB43
import Derived.Test.YtnagpmhaddfgmaaGreatProg
namespace Go.Proofs.YtnagpmhaddfgmaaGreat
open Go.Proofs.Tryz
open List (length getD set)
open Int (toNat)
open IntKind (wrap)
abbrev yi : Ty := .int .i64
abbrev y1 : Ty := .slice yi
abbrev y2 : Ty := .slice y1
abbrev y3 : Ty := .slice y2
abbrev Y1 : Type := List Int
abbrev Y2 : Type := List Y1
abbrev Y3 : Type := List Y2
abbrev yh (l : List Nat) (s : Sh) : Keep := { acts := [], S := { slots := l, sh := s, obs := [] } }
abbrev ys (l : List Nat) (s : Sh) : SSh := { slots := l, sh := s, obs := [] }
abbrev yd (A : Sh) (I : List (Nat × OSh)) (L : List LP) (R : Type) (F : A.I × OL I → Option R) (e : R → List AV × List (Nat × Ob)) : FD := { A := A, ins := I, lend := L, R := R, F := F, emb := e }
abbrev yr (r : List ResultVar) (s : Sh) : RetK := { acts := [], res := r, sh := s, obs := [], pins := [] }
abbrev yj : List Sh → Sh
  | [] => .nil
  | a :: l => .cons a (yj l)
abbrev Za : List UInt8 := ([0, 1, 2, 2, 3, 3, 3, 3, 4, 4, 4, 4, 4, 4, 4, 4, 5, 5, 5, 5, 5, 5, 5, 5, 5, 5, 5, 5, 5, 5, 5, 5, 6, 6, 6, 6, 6, 6, 6, 6, 6, 6, 6, 6, 6, 6, 6, 6, 6, 6, 6, 6, 6, 6, 6, 6, 6, 6, 6, 6, 6, 6, 6, 6, 7, 7, 7, 7, 7, 7, 7, 7, 7, 7, 7, 7, 7, 7, 7, 7, 7, 7, 7, 7, 7, 7, 7, 7, 7, 7, 7, 7, 7, 7, 7, 7, 7, 7, 7, 7, 7, 7, 7, 7, 7, 7, 7, 7, 7, 7, 7, 7, 7, 7, 7, 7, 7, 7, 7, 7, 7, 7, 7, 7, 7, 7, 7, 7, 8, 8, 8, 8, 8, 8, 8, 8, 8, 8, 8, 8, 8, 8, 8, 8, 8, 8, 8, 8, 8, 8, 8, 8, 8, 8, 8, 8, 8, 8, 8, 8, 8, 8, 8, 8, 8, 8, 8, 8, 8, 8, 8, 8, 8, 8, 8, 8, 8, 8, 8, 8, 8, 8, 8, 8, 8, 8, 8, 8, 8, 8, 8, 8, 8, 8, 8, 8, 8, 8, 8, 8, 8, 8, 8, 8, 8, 8, 8, 8, 8, 8, 8, 8, 8, 8, 8, 8, 8, 8, 8, 8, 8, 8, 8, 8, 8, 8, 8, 8, 8, 8, 8, 8, 8, 8, 8, 8, 8, 8, 8, 8, 8, 8, 8, 8, 8, 8, 8, 8, 8, 8, 8, 8, 8, 8, 8, 8] : List UInt8)
abbrev Zd : Nat := IntKind.bits .u64
abbrev Ye : Type := (List Nat) × Y2
abbrev Zf : Sh := yj [.dat y1, .dat y2]
abbrev Yg : Type := HL [y1, y1] → Option (Int)
abbrev Yh : Type := Int × (Bool × (Y1 × (Y2 × Y1)))
abbrev Yi : Type := Int × (Int × Y1)
abbrev Yj : Type := Y1 × (Y2 × Int)
abbrev Zk : Sh := yj [.dat y1, .dat y2, .dat y1, .dat yi]
abbrev Yl : Type := Y1 × (Y2 × (Int × Y1))
abbrev Zm : Sh := yj [.dat yi]
abbrev Yn : Type := Int × (Y1 × (Y2 × Y1))
abbrev Yo : Type := Int × Int
abbrev Zp : Sh := yj [.dat .bool]
abbrev Zq : Sh := yj [.nilsl, .nilsl, .nilsl, .dat yi]
abbrev Zr : Sh := yj [.box 64 0, .box 65 0, .box 66 0]
abbrev Zt : Sh := yj [.arr 64, .dat yi, .clo [y1, y1] yi, .dat yi, .dat yi]
abbrev Zu : Nat × OSh := (64, .perm 24 3 yi)
abbrev Yv : Type := Y1 × (Y2 × (Y1 × Yo))
abbrev Zw : Nat × OSh := (3, .cells (yj [.arr 577, .arr 580]))
abbrev Yx : Type := Int × (Int × Yi)
abbrev Yy : Type := Y1 × Y2
abbrev Zz : Sh := yj [.nilsl, .nilsl]
abbrev Yaa : Type := Y1 × (Y2 × (Y1 × Int))
abbrev Zab : Ty := .slice (.int .u8)
abbrev Yac : Type := Y1 × (Int × (Int × Y2))
abbrev Zad : Sh := yj [.dat yi, .dat yi, .dat yi, .dat yi, .dat y1]
abbrev Yae : Type := Int × (Int × (Int × (Y1 × Y1)))
abbrev Zaf : Nat × OSh := (66, .cells (yj [.nilsl]))
abbrev Yag : Type := Y1 × (Y1 × Yo)
abbrev Zah : Nat × OSh := (4, .cells (yj [.arr 901340, .nilsl, .arr 901342, .dat yi]))
abbrev Zai : Nat × OSh := (6, .cells (yj [.arr 13888, .arr 1860, .arr 1861, .dat yi]))
abbrev Zaj : Nat × OSh := (64, .cells Zf)
abbrev Zak : Nat × OSh := (65, .cells Zm)
abbrev Zal : Nat × OSh := (5, .cells (yj [.arr 833, .arr 834]))
abbrev Zam : Nat × OSh := (5, .cells (yj [.arr 896, .arr 581, .arr 582, .dat yi]))
abbrev Yan : Type := Int × (Bool × Ye)
abbrev Zao : Nat × OSh := (580, .rows 24 3 yi)
abbrev Yap : Type := Int × (Bool)
abbrev Zaq : Sh := yj [.dat y1, .box 2 0, .arr 11, .arr 12, .arr 13, .dat yi]
abbrev Yar : Type := Y1 × Yi
abbrev Zas : Sh := yj [.dat y1, .dat yi, .dat yi]
abbrev Yat : Type := Int × (Int × (Y1 × (Y1 × (Y1 × Y1))))
abbrev Zau : Sh := yj [.dat (.int .u64)]
abbrev Yav : Type := (Yg) × (Int × Ye)
abbrev Yaw : Type := Y1 × (Int × (Int × Yl))
abbrev Yax : Type := Int × Yy
abbrev Zay : Nat × OSh := (4, .cells (yj [.arr 900340, .arr 902341]))
abbrev Zaz : Nat × OSh := (7, .cells (yj [.arr 900370, .arr 902371]))
abbrev Zba : Nat × OSh := (4, .cells Zq)
abbrev Zbb : Sh := yj [.arr 900670, .arr 900671, .arr 900672, .dat yi]
abbrev Ybc : Type := Bool × Y1
abbrev Zbd : Nat × OSh := (577, .arr 3 yi)
abbrev Zbe : Nat × OSh := (0, .arr 3 yi)
abbrev Ybf : Type := Int × (Int × (Int × (Int × Yag)))
abbrev Yb : Type := Int × (Y1 × Yo)
abbrev Zc : Nat × OSh := (64, .cells (yj [.dat Zab, .dat yi, .dat (.int .u64)]))
noncomputable def tabl : List (Nat × TD) := [(3, .sc yi), (4, .sc .bool), (5, .sc (.int .u8)), (9, .sc .str), (22, .sl 5 (.int .u8) 1), (24, .sl 3 yi 8), (25, .sl 24 y1 24), (27, .st (.pair y1 y2) [(24, y1), (25, y2)]), (68, .st (.pair (.pair y1 y2) (.pair y1 yi)) [(27, (.pair y1 y2)), (24, y1), (3, yi)]), (72, .st (.pair yi (.pair yi (.pair yi (.pair yi y1)))) [(3, yi), (3, yi), (3, yi), (3, yi), (24, y1)]), (83, .sl 72 (.pair yi (.pair yi (.pair yi (.pair yi y1)))) 56), (108, .sc (.int .u64)), (110, .st (.pair Zab (.pair yi (.int .u64))) [(22, Zab), (3, yi), (108, (.int .u64))]), (145, .sc (.int .u64)), (220, .sc (.int .u64))]
noncomputable def tt : Nat → TD := fun i => match look tabl i with
 | some d => d
 | none => .no
noncomputable def wra (a1_ : Y1) : Tr (Bool) :=
 .l (decide ((65536 : Int) < ((length a1_ : Nat) : Int)))
noncomputable def wrb (a1_ : Y1) : Option (Bool) := (wra a1_).ev
noncomputable def wajk : RetK := yr [.tmp 2] Zp
noncomputable def wrc : FD := yd (yj [.dat Zab]) [] [] Bool (fun x => wrb x.1.1) (fun r => ([.dat .bool r], []))
noncomputable def wrd (a1_ : Y1) (a2_ : Int) (a3_ : Int) : Tr Yb :=
 .t (decide (a2_ < ((length a1_ : Nat) : Int)))
 (.g (inR a2_ (length a1_)) <|
 .t (decide ((wrap .i64 (a2_ + 1)) ≤ ((length a1_ : Nat) : Int)))
 (.l ((wrap .i64 (getD a1_ (toNat a2_) 0)), (a1_, ((wrap .i64 (a2_ + 1)), (wrap .u64 ((wrap .u64 ((wrap .u64 (a3_ * (6364136223846793005 : Int))) + (wrap .u64 (wrap .i64 (getD a1_ (toNat a2_) 0))))) + 462197))))))
 (.g (decide ((0 : Int) ≤ (40 : Int))) <|
 .l ((wrap .i64 (wrap .u64 (BitVec.toNat ((BitVec.ofInt Zd (Int.fdiv (wrap .u64 ((wrap .u64 ((wrap .u64 (a3_ * (6364136223846793005 : Int))) + (wrap .u64 (wrap .i64 (getD a1_ (toNat a2_) 0))))) + 462197)) (2 ^ (min (toNat 40) Zd)))) &&& (BitVec.ofInt Zd (255 : Int)))))), (a1_, ((wrap .i64 (a2_ + 1)), (wrap .u64 ((wrap .u64 ((wrap .u64 (a3_ * (6364136223846793005 : Int))) + (wrap .u64 (wrap .i64 (getD a1_ (toNat a2_) 0))))) + 462197)))))))
 (.t (decide ((wrap .i64 (a2_ + 1)) ≤ ((length a1_ : Nat) : Int)))
 (.l ((0 : Int), (a1_, ((wrap .i64 (a2_ + 1)), (wrap .u64 ((wrap .u64 ((wrap .u64 (a3_ * (6364136223846793005 : Int))) + (wrap .u64 (0 : Int)))) + 462197))))))
 (.g (decide ((0 : Int) ≤ (40 : Int))) <|
 .l ((wrap .i64 (wrap .u64 (BitVec.toNat ((BitVec.ofInt Zd (Int.fdiv (wrap .u64 ((wrap .u64 ((wrap .u64 (a3_ * (6364136223846793005 : Int))) + (wrap .u64 (0 : Int)))) + 462197)) (2 ^ (min (toNat 40) Zd)))) &&& (BitVec.ofInt Zd (255 : Int)))))), (a1_, ((wrap .i64 (a2_ + 1)), (wrap .u64 ((wrap .u64 ((wrap .u64 (a3_ * (6364136223846793005 : Int))) + (wrap .u64 (0 : Int)))) + 462197)))))))
noncomputable def wig (a1_ : Y1) (a2_ : Int) (a3_ : Int) : Option Yb := (wrd a1_ a2_ a3_).ev
noncomputable def wajl : RetK := { acts := [], res := [.tmp 2], sh := Zm, obs := [Zc], pins := [(0, 0, 64)] }
noncomputable def wre : FD := yd (yj [.box 64 0]) [Zc] [.arg 0] Yb (fun x => wig x.2.1.1 x.2.1.2.1 x.2.1.2.2.1) (fun r => ([.dat yi r.1], [(64, .cells [.dat Zab r.2.1, .dat yi r.2.2.1, .dat (.int .u64) r.2.2.2])]))
noncomputable def wrf (a4_ : Int) (a1_ : Y1) (a2_ : Int) (a3_ : Int) : Tr Yb :=
 .t (decide (a4_ ≤ 1))
 (.l ((0 : Int), (a1_, (a2_, a3_))))
 (.c Yb (wig a1_ a2_ a3_) fun r1_ =>
 .t (decide (200 < a4_))
 (.c Yb (wig r1_.2.1 r1_.2.2.1 r1_.2.2.2) fun r2_ =>
 .g (!decide (a4_ = 0)) <|
 .l ((Int.tmod (wrap .i64 ((wrap .i64 (r1_.1 * (256 : Int))) + r2_.1)) a4_), (r2_.2.1, (r2_.2.2.1, r2_.2.2.2))))
 (.g (!decide (a4_ = 0)) <|
 .l ((Int.tmod r1_.1 a4_), (r1_.2.1, (r1_.2.2.1, r1_.2.2.2)))))
noncomputable def ww (a4_ : Int) (a1_ : Y1) (a2_ : Int) (a3_ : Int) : Option Yb := (wrf a4_ a1_ a2_ a3_).ev
noncomputable def wajm : RetK := { acts := [], res := [.tmp 4], sh := Zm, obs := [Zc], pins := [(0, 0, 64)] }
noncomputable def wbh : FD := yd (yj [.box 64 0, .dat yi]) [Zc] [.arg 0] Yb (fun x => ww x.1.2.1 x.2.1.1 x.2.1.2.1 x.2.1.2.2.1) (fun r => ([.dat yi r.1], [(64, .cells [.dat Zab r.2.1, .dat yi r.2.2.1, .dat (.int .u64) r.2.2.2])]))
noncomputable def wrg (a4_ : Y1) (a1_ : Y1) (a2_ : Int) (a3_ : Int) : Tr Yb :=
 .c Yb (ww ((length a4_ : Nat) : Int) a1_ a2_ a3_) fun r1_ =>
 .g (inR r1_.1 (length a4_)) <|
 .l ((getD a4_ (toNat r1_.1) 0), (r1_.2.1, (r1_.2.2.1, r1_.2.2.2)))
noncomputable def wu (a4_ : Y1) (a1_ : Y1) (a2_ : Int) (a3_ : Int) : Option Yb := (wrg a4_ a1_ a2_ a3_).ev
noncomputable def wajn : RetK := { acts := [], res := [.tmp 4], sh := Zm, obs := [Zc], pins := [(0, 0, 64)] }
noncomputable def wed : FD := yd (yj [.box 64 0, .dat y1]) [Zc] [.arg 0] Yb (fun x => wu x.1.2.1 x.2.1.1 x.2.1.2.1 x.2.1.2.2.1) (fun r => ([.dat yi r.1], [(64, .cells [.dat Zab r.2.1, .dat yi r.2.2.1, .dat (.int .u64) r.2.2.2])]))
noncomputable def waj (k : Int × (Int × Yi)) (v : Int × Yar) : Tr ((Int × Yar) ⊕ Yar) :=
 .t (decide (v.1 < k.2.1))
 (.t (decide (v.1 < k.1))
 (.c Yb (ww k.2.2.2.1 v.2.1 v.2.2.1 v.2.2.2.1) fun r14_ =>
 .g (decide ((length v.2.2.2.2 + length ([r14_.1] : Y1)) * 8 ≤ 140737488355328)) <|
 .l (.inl ((wrap .i64 (v.1 + 1)), (r14_.2.1, (r14_.2.2.1, (r14_.2.2.2, (v.2.2.2.2 ++ ([r14_.1] : Y1))))))))
 (.l (.inr (v.2.1, (v.2.2.1, (v.2.2.2.1, v.2.2.2.2))))))
 (.l (.inr (v.2.1, (v.2.2.1, (v.2.2.2.1, v.2.2.2.2)))))
noncomputable def wih (k : Int × (Int × Yi)) (v : Int × Yar) : Option Yar := iter (fun v => (waj k v).ev) v
noncomputable def wes : LD := ⟨{ acts := [.ownB 4 0 900340 3 yi, .ownB 7 0 900370 3 yi], S := { slots := [0, 1, 4, 5, 6, 7, 8, 9], sh := (yj [.box 64 0, .dat yi, .box 4 0, .dat yi, .dat yi, .box 7 0, .dat yi, .dat yi]), obs := [Zc, (4, .cells (yj [.arr 900340, .nilsl])), (7, .cells (yj [.arr 900370, .nilsl])), (900340, .arr 3 yi), (900370, .arr 3 yi)] } }, [(0, { acts := [], S := { slots := [0, 1, 4, 6, 7, 8], sh := (yj [.box 64 0, .dat yi, .box 4 0, .dat yi, .box 7 0, .dat yi]), obs := [Zc, (4, .cells (yj [.arr 900340, .nilsl])), (7, .cells (yj [.arr 900370, .nilsl])), (900340, .arr 3 yi), (900370, .arr 3 yi)] } })], (yh [] .nil), Int × (Int × Yi), Int × Yar, Y1 × Yi, fun k v => (((), (k.1, ((), (k.2.1, (k.2.2.1, ((), (k.2.2.2.1, (v.1, ())))))))), ((v.2.1, (v.2.2.1, (v.2.2.2.1, ()))), (((), ((), ())), (((), ((), ())), (k.2.2.2.2, (v.2.2.2.2, ())))))), fun t => (t.1.2.1, (t.1.2.2.2.1, (t.1.2.2.2.2.1, (t.1.2.2.2.2.2.2.1, t.2.2.2.2.1)))), fun t => (t.1.2.2.2.2.2.2.2.1, (t.2.1.1, (t.2.1.2.1, (t.2.1.2.2.1, t.2.2.2.2.2.1)))), waj, fun k r => .l (.exit 0 (mkSt ({ slots := [0, 1, 4, 6, 7, 8], sh := (yj [.box 64 0, .dat yi, .box 4 0, .dat yi, .box 7 0, .dat yi]), obs := [Zc, (4, .cells (yj [.arr 900340, .nilsl])), (7, .cells (yj [.arr 900370, .nilsl])), (900340, .arr 3 yi), (900370, .arr 3 yi)] }) (((), (k.1, ((), (k.2.2.1, ((), (k.2.2.2.1, ())))))), ((r.1, (r.2.1, (r.2.2.1, ()))), (((), ((), ())), (((), ((), ())), (k.2.2.2.2, (r.2.2.2, ()))))))))⟩
noncomputable def wbl (k : Int × (Int × (Int × (Int × (Y1 × (Y2 × Yy)))))) (v : Int × Yar) : Tr ((Int × Yar) ⊕ Yar) :=
 .t (decide (v.1 < ((length k.2.2.2.2.2.2.1 : Nat) : Int)))
 (.c Yb (ww k.2.2.1 v.2.1 v.2.2.1 v.2.2.2.1) fun r48_ =>
 .g (decide ((length v.2.2.2.2 + length ([r48_.1] : Y1)) * 8 ≤ 140737488355328)) <|
 .l (.inl ((wrap .i64 (v.1 + 1)), (r48_.2.1, (r48_.2.2.1, (r48_.2.2.2, (v.2.2.2.2 ++ ([r48_.1] : Y1))))))))
 (.l (.inr (v.2.1, (v.2.2.1, (v.2.2.2.1, v.2.2.2.2)))))
noncomputable def wii (k : Int × (Int × (Int × (Int × (Y1 × (Y2 × Yy)))))) (v : Int × Yar) : Option Yar := iter (fun v => (wbl k v).ev) v
noncomputable def wet : LD := ⟨{ acts := [], S := { slots := [0, 1, 4, 6, 7, 8, 10, 11, 12], sh := (yj [.box 64 0, .dat yi, .box 4 0, .dat yi, .box 7 0, .dat yi, .dat yi, .arr 51, .dat yi]), obs := [Zc, Zay, Zaz, (51, .arr 3 yi), (900340, .arr 3 yi), (902341, .rows 24 3 yi), (900370, .arr 3 yi), (902371, .rows 24 3 yi)] } }, [(4, { acts := [], S := { slots := [0, 1, 4, 6, 7, 8, 10, 11], sh := (yj [.box 64 0, .dat yi, .box 4 0, .dat yi, .box 7 0, .dat yi, .dat yi, .arr 51]), obs := [Zc, Zay, Zaz, (51, .arr 3 yi), (900340, .arr 3 yi), (902341, .rows 24 3 yi), (900370, .arr 3 yi), (902371, .rows 24 3 yi)] } })], (yh [] .nil), Int × (Int × (Int × (Int × (Y1 × (Y2 × Yy))))), Int × Yar, Y1 × Yi, fun k v => (((), (k.1, ((), (k.2.1, ((), (k.2.2.1, (k.2.2.2.1, ((), (v.1, ()))))))))), ((v.2.1, (v.2.2.1, (v.2.2.2.1, ()))), (((), ((), ())), (((), ((), ())), (v.2.2.2.2, (k.2.2.2.2.1, (k.2.2.2.2.2.1, (k.2.2.2.2.2.2.1, (k.2.2.2.2.2.2.2, ()))))))))), fun t => (t.1.2.1, (t.1.2.2.2.1, (t.1.2.2.2.2.2.1, (t.1.2.2.2.2.2.2.1, (t.2.2.2.2.2.1, (t.2.2.2.2.2.2.1, (t.2.2.2.2.2.2.2.1, t.2.2.2.2.2.2.2.2.1))))))), fun t => (t.1.2.2.2.2.2.2.2.2.1, (t.2.1.1, (t.2.1.2.1, (t.2.1.2.2.1, t.2.2.2.2.1)))), wbl, fun k r => .l (.exit 4 (mkSt ({ slots := [0, 1, 4, 6, 7, 8, 10, 11], sh := (yj [.box 64 0, .dat yi, .box 4 0, .dat yi, .box 7 0, .dat yi, .dat yi, .arr 51]), obs := [Zc, Zay, Zaz, (51, .arr 3 yi), (900340, .arr 3 yi), (902341, .rows 24 3 yi), (900370, .arr 3 yi), (902371, .rows 24 3 yi)] }) (((), (k.1, ((), (k.2.1, ((), (k.2.2.1, (k.2.2.2.1, ((), ())))))))), ((r.1, (r.2.1, (r.2.2.1, ()))), (((), ((), ())), (((), ((), ())), (r.2.2.2, (k.2.2.2.2.1, (k.2.2.2.2.2.1, (k.2.2.2.2.2.2.1, (k.2.2.2.2.2.2.2, ())))))))))))⟩
noncomputable def wak (k : Int × (Int × Yn)) (v : Int × Yac) : Tr ((Int × Yac) ⊕ Yac) :=
 .t (decide (v.1 < k.2.1))
 (.t (decide (v.1 < k.1))
 (.c Yar (wii (k.1, (k.2.1, (k.2.2.1, (v.1, (k.2.2.2.1, (k.2.2.2.2.1, (k.2.2.2.2.2, v.2.2.2.2))))))) ((0 : Int), (v.2.1, (v.2.2.1, (v.2.2.2.1, ([] : Y1)))))) fun r61_ =>
 .g (decide ((length v.2.2.2.2 + 1) * 24 ≤ 140737488355328)) <|
 .l (.inl ((wrap .i64 (v.1 + 1)), (r61_.1, (r61_.2.1, (r61_.2.2.1, (set (v.2.2.2.2 ++ [[]]) (length v.2.2.2.2) r61_.2.2.2)))))))
 (.l (.inr (v.2.1, (v.2.2.1, (v.2.2.2.1, v.2.2.2.2))))))
 (.l (.inr (v.2.1, (v.2.2.1, (v.2.2.2.1, v.2.2.2.2)))))
noncomputable def wij (k : Int × (Int × Yn)) (v : Int × Yac) : Option Yac := iter (fun v => (wak k v).ev) v
noncomputable def weu : LD := ⟨{ acts := [.ownRB 4 1 902341 24 3 yi, .ownRB 7 1 902371 24 3 yi], S := { slots := [0, 1, 4, 6, 7, 8, 10], sh := (yj [.box 64 0, .dat yi, .box 4 0, .dat yi, .box 7 0, .dat yi, .dat yi]), obs := [Zc, Zay, Zaz, (900340, .arr 3 yi), (902341, .rows 24 3 yi), (900370, .arr 3 yi), (902371, .rows 24 3 yi)] } }, [(2, { acts := [], S := { slots := [0, 4, 7], sh := (yj [.box 64 0, .box 4 0, .box 7 0]), obs := [Zc, Zay, Zaz, (900340, .arr 3 yi), (902341, .rows 24 3 yi), (900370, .arr 3 yi), (902371, .rows 24 3 yi)] } })], (yh [] .nil), Int × (Int × Yn), Int × Yac, Y1 × (Int × (Int × Y2)), fun k v => (((), (k.1, ((), (k.2.1, ((), (k.2.2.1, (v.1, ()))))))), ((v.2.1, (v.2.2.1, (v.2.2.2.1, ()))), (((), ((), ())), (((), ((), ())), (k.2.2.2.1, (k.2.2.2.2.1, (k.2.2.2.2.2, (v.2.2.2.2, ())))))))), fun t => (t.1.2.1, (t.1.2.2.2.1, (t.1.2.2.2.2.2.1, (t.2.2.2.2.1, (t.2.2.2.2.2.1, t.2.2.2.2.2.2.1))))), fun t => (t.1.2.2.2.2.2.2.1, (t.2.1.1, (t.2.1.2.1, (t.2.1.2.2.1, t.2.2.2.2.2.2.2.1)))), wak, fun k r => .l (.exit 2 (mkSt ({ slots := [0, 4, 7], sh := (yj [.box 64 0, .box 4 0, .box 7 0]), obs := [Zc, Zay, Zaz, (900340, .arr 3 yi), (902341, .rows 24 3 yi), (900370, .arr 3 yi), (902371, .rows 24 3 yi)] }) (((), ((), ((), ()))), ((r.1, (r.2.1, (r.2.2.1, ()))), (((), ((), ())), (((), ((), ())), (k.2.2.2.1, (k.2.2.2.2.1, (k.2.2.2.2.2, (r.2.2.2, ()))))))))))⟩
noncomputable def wrh (a4_ : Int) (a1_ : Y1) (a2_ : Int) (a3_ : Int) : Tr Yv :=
 .c Yb (wu ([(3 : Int), (4 : Int), (2 : Int), (5 : Int), (1 : Int), (6 : Int), (7 : Int)] : Y1) a1_ a2_ a3_) fun r1_ =>
 .c Yb (wu ([(4 : Int), (3 : Int), (5 : Int), (2 : Int), (6 : Int), (7 : Int), (1 : Int), (0 : Int)] : Y1) r1_.2.1 r1_.2.2.1 r1_.2.2.2) fun r2_ =>
 .c Yb (wu ([(10 : Int), (10 : Int), (20 : Int), (4 : Int)] : Y1) r2_.2.1 r2_.2.2.1 r2_.2.2.2) fun r3_ =>
 .c Yar (wih (a4_, (r1_.1, (r2_.1, (r3_.1, ([] : Y1))))) ((0 : Int), (r3_.2.1, (r3_.2.2.1, (r3_.2.2.2, ([] : Y1)))))) fun r23_ =>
 .c Yac (wij (a4_, (r2_.1, (r3_.1, (([] : Y1), (([] : List Y1), r23_.2.2.2))))) ((0 : Int), (r23_.1, (r23_.2.1, (r23_.2.2.1, ([] : List Y1)))))) fun r69_ =>
 .l (r23_.2.2.2, (r69_.2.2.2, (r69_.1, (r69_.2.1, r69_.2.2.1))))
noncomputable def whk (a4_ : Int) (a1_ : Y1) (a2_ : Int) (a3_ : Int) : Option Yv := (wrh a4_ a1_ a2_ a3_).ev
noncomputable def wajo : RetK := { acts := [.ren 900370 1, .ren 902371 2], res := [.cell 4 27], sh := (yj [.agg (yj [.arr 1, .arr 2])]), obs := [(1, .arr 3 yi), (2, .rows 24 3 yi), Zc], pins := [(0, 0, 64)] }
noncomputable def wmo : FD := yd (yj [.box 64 0, .dat yi]) [Zc] [.arg 0] Yv (fun x => whk x.1.2.1 x.2.1.1 x.2.1.2.1 x.2.1.2.2.1) (fun r => ([.agg [.arr 1, .arr 2]], [(1, .arr 3 yi r.1), (2, .rows 24 3 yi r.2.1 none), (64, .cells [.dat Zab r.2.2.1, .dat yi r.2.2.2.1, .dat (.int .u64) r.2.2.2.2])]))
noncomputable def wik : Nat → Nat → List Nat := fun r i => match look [(1, [(2, [14]), (5, [17])]), (2, [(3, [21])])] r with
 | some l => (look l i).getD []
 | none => []
noncomputable def wil : Env := envOf [(83, wed), (120, wbh)]
noncomputable def wim : List (Nat × LD) := [(0, wes), (4, wet), (2, weu)]
noncomputable def wio : Code := (f176.body).getD .skip
noncomputable def wmp (a1_ : Y1) : Tr Y1 :=
 .g (decide ((length ([] : Y1) + length a1_) * 8 ≤ 140737488355328)) <|
 .l (([] : Y1) ++ a1_)
noncomputable def wad (a1_ : Y1) : Option Y1 := (wmp a1_).ev
noncomputable def wajp : RetK := { acts := [.ren 3 0], res := [.tmp 2], sh := (yj [.arr 0]), obs := [Zbe], pins := [] }
noncomputable def wdi : FD := yd (yj [.dat y1]) [] [] Y1 (fun x => wad x.1.1) (fun r => ([.arr 0], [(0, .arr 3 yi r)]))
noncomputable def wbm (k : Y1 × (Int × Yax)) (v : List Y1) : Tr (Y2 ⊕ Y2) :=
 .t (decide (((length v : Nat) : Int) < (8 : Int)))
 (.c Y1 (wad k.2.2.2.1) fun r11_ =>
 .g (decide ((length v + 1) * 24 ≤ 140737488355328)) <|
 .l (.inl (set (v ++ [[]]) (length v) r11_)))
 (.l (.inr v))
noncomputable def wip (k : Y1 × (Int × Yax)) (v : List Y1) : Option Y2 := iter (fun v => (wbm k v).ev) v
noncomputable def wev : LD := ⟨{ acts := [.ownRB 4 1 901341 24 3 yi], S := { slots := [0, 3, 4], sh := (yj [.box 64 0, .box 3 0, .box 4 0]), obs := [Zc, (3, .cells (yj [.arr 65, .arr 66])), (4, .cells (yj [.nilsl, .arr 901341])), (65, .arr 3 yi), (66, .rows 24 3 yi), (901341, .rows 24 3 yi)] } }, [(1, { acts := [], S := { slots := [0, 3, 4], sh := (yj [.box 64 0, .box 3 0, .box 4 0]), obs := [Zc, (3, .cells (yj [.arr 65, .arr 66])), (4, .cells (yj [.nilsl, .arr 901341])), (65, .arr 3 yi), (66, .rows 24 3 yi), (901341, .rows 24 3 yi)] } })], (yh [] .nil), Y1 × (Int × Yax), List Y1, List Y1, fun k v => (((), ((), ((), ()))), ((k.1, (k.2.1, (k.2.2.1, ()))), (((), ((), ())), (((), ((), ())), (k.2.2.2.1, (v, (k.2.2.2.2, ()))))))), fun t => (t.2.1.1, (t.2.1.2.1, (t.2.1.2.2.1, (t.2.2.2.2.1, t.2.2.2.2.2.2.1)))), fun t => t.2.2.2.2.2.1, wbm, fun k r => .l (.exit 1 (mkSt ({ slots := [0, 3, 4], sh := (yj [.box 64 0, .box 3 0, .box 4 0]), obs := [Zc, (3, .cells (yj [.arr 65, .arr 66])), (4, .cells (yj [.nilsl, .arr 901341])), (65, .arr 3 yi), (66, .rows 24 3 yi), (901341, .rows 24 3 yi)] }) (((), ((), ((), ()))), ((k.1, (k.2.1, (k.2.2.1, ()))), (((), ((), ())), (((), ((), ())), (k.2.2.2.1, (r, (k.2.2.2.2, ())))))))))⟩
noncomputable def wri (a1_ : Y1) (a2_ : Int) (a3_ : Int) (a4_ : Y1) (a5_ : List Y1) : Tr Yv :=
 .t (((length a4_ : Nat) : Int) == (0 : Int))
 (.l (a4_, (a5_, (a1_, (a2_, a3_)))))
 (.c Yb (ww ((length a4_ : Nat) : Int) a1_ a2_ a3_) fun r1_ =>
 .c Yb (ww (60 : Int) r1_.2.1 r1_.2.2.1 r1_.2.2.2) fun r2_ =>
 .t (r2_.1 == 0)
 (.c Yb (wu ([(-1 : Int), (99 : Int), (100 : Int), (4611686018427387904 : Int)] : Y1) r2_.2.1 r2_.2.2.1 r2_.2.2.2) fun r3_ =>
 .g (inR r1_.1 (length a4_)) <|
 .g (decide ((toNat r1_.1) < length a4_)) <|
 .l ((set a4_ (toNat r1_.1) r3_.1), (a5_, (r3_.2.1, (r3_.2.2.1, r3_.2.2.2)))))
 (.t (r2_.1 == 1)
 (.t (decide ((0 : Int) < ((length a5_ : Nat) : Int)))
 (.g (inR 0 (length a5_)) <|
 .g (decide ((toNat 0) < length a5_)) <|
 .c Yb (wu ([(-1 : Int), (99 : Int), (100 : Int), (-9223372036854775808 : Int)] : Y1) r2_.2.1 r2_.2.2.1 r2_.2.2.2) fun r4_ =>
 .g (inR r1_.1 (length (getD a5_ (toNat 0) ([] : Y1)))) <|
 .g (decide ((toNat r1_.1) < length (getD a5_ (toNat 0) ([] : Y1)))) <|
 .l (a4_, ((set a5_ (toNat 0) (set (getD a5_ (toNat 0) ([] : Y1)) (toNat r1_.1) r4_.1)), (r4_.2.1, (r4_.2.2.1, r4_.2.2.2)))))
 (.l (a4_, (a5_, (r2_.2.1, (r2_.2.2.1, r2_.2.2.2))))))
 (.t (r2_.1 == 2)
 (.g (decide ((length a4_ + length ([(1 : Int)] : Y1)) * 8 ≤ 140737488355328)) <|
 .l ((a4_ ++ ([(1 : Int)] : Y1)), (a5_, (r2_.2.1, (r2_.2.2.1, r2_.2.2.2)))))
 (.t (r2_.1 == 3)
 (.c Y2 (wip (r2_.2.1, (r2_.2.2.1, (r2_.2.2.2, (a4_, ([] : List Y1))))) a5_) fun r18_ =>
 .l (a4_, (r18_, (r2_.2.1, (r2_.2.2.1, r2_.2.2.2)))))
 (.t (r2_.1 == 4)
 (.l (([] : Y1), (([] : List Y1), (r2_.2.1, (r2_.2.2.1, r2_.2.2.2)))))
 (.l (a4_, (a5_, (r2_.2.1, (r2_.2.2.1, r2_.2.2.2))))))))))
noncomputable def whl (a1_ : Y1) (a2_ : Int) (a3_ : Int) (a4_ : Y1) (a5_ : List Y1) : Option Yv := (wri a1_ a2_ a3_ a4_ a5_).ev
noncomputable def wajq : RetK := { acts := [.ownB 4 0 1 3 yi, .ownRB 4 1 2 24 3 yi, .ren 65 1, .ren 66 2], res := [.cell 4 27], sh := (yj [.agg (yj [.arr 1, .arr 2])]), obs := [(1, .arr 3 yi), (2, .rows 24 3 yi), Zc], pins := [(0, 0, 64)], gone := [65, 66] }
noncomputable def wrj : FD := yd (yj [.box 64 0, .agg (yj [.arr 65, .arr 66])]) [Zc, (65, .arr 3 yi), (66, .rows 24 3 yi)] [.arg 0, .comp 1 0, .comp 1 1] Yv (fun x => whl x.2.1.1 x.2.1.2.1 x.2.1.2.2.1 x.2.2.1 x.2.2.2.1) (fun r => ([.agg [.arr 1, .arr 2]], [(1, .arr 3 yi r.1), (2, .rows 24 3 yi r.2.1 none), (64, .cells [.dat Zab r.2.2.1, .dat yi r.2.2.2.1, .dat (.int .u64) r.2.2.2.2]), (65, .spent), (66, .spent)]))
noncomputable def wrk : Nat → Nat → List Nat := fun r i => match look [(6, [(0, [60000004])]), (9, [(0, [60000006])])] r with
 | some l => (look l i).getD []
 | none => []
noncomputable def wrl : Env := envOf [(120, wbh), (83, wed), (173, wdi)]
noncomputable def wrm : List (Nat × LD) := [(1, wev)]
noncomputable def wrn : Code := (f175.body).getD .skip
noncomputable def wro (a1_ : Int) (a2_ : Int) : Tr (Int) :=
 .t (decide (a2_ < a1_))
 (.l a1_)
 (.l a2_)
noncomputable def whm (a1_ : Int) (a2_ : Int) : Option (Int) := (wro a1_ a2_).ev
noncomputable def wajr : RetK := yr [.tmp 4] Zm
noncomputable def wmq : FD := yd (yj [.dat yi, .dat yi]) [] [] Int (fun x => whm x.1.1 x.1.2.1) (fun r => ([.dat yi r], []))
noncomputable def wbn (k : Y1 × Y2) (v : Int × Yar) : Tr ((Int × Yar) ⊕ Yar) :=
 .t (decide (v.1 < ((length k.1 : Nat) : Int)))
 (.c Yb (ww (20 : Int) v.2.1 v.2.2.1 v.2.2.2.1) fun r9_ =>
 .g (decide ((length v.2.2.2.2 + length ([r9_.1] : Y1)) * 8 ≤ 140737488355328)) <|
 .l (.inl ((wrap .i64 (v.1 + 1)), (r9_.2.1, (r9_.2.2.1, (r9_.2.2.2, (v.2.2.2.2 ++ ([r9_.1] : Y1))))))))
 (.l (.inr (v.2.1, (v.2.2.1, (v.2.2.2.1, v.2.2.2.2)))))
noncomputable def wiq (k : Y1 × Y2) (v : Int × Yar) : Option Yar := iter (fun v => (wbn k v).ev) v
noncomputable def wew : LD := ⟨{ acts := [], S := { slots := [0, 4, 5, 6, 7], sh := (yj [.box 64 0, .box 4 0, .box 5 0, .arr 14, .dat yi]), obs := [Zc, (4, .cells Zz), Zal, (14, .arr 3 yi), (833, .arr 3 yi), (834, .rows 24 3 yi)] } }, [(0, { acts := [], S := { slots := [0, 4, 5, 6], sh := (yj [.box 64 0, .box 4 0, .box 5 0, .arr 14]), obs := [Zc, (4, .cells Zz), Zal, (14, .arr 3 yi), (833, .arr 3 yi), (834, .rows 24 3 yi)] } })], (yh [] .nil), Y1 × Y2, Int × Yar, Y1 × Yi, fun k v => (((), ((), ((), ((), (v.1, ()))))), ((v.2.1, (v.2.2.1, (v.2.2.2.1, ()))), (((), ((), ())), (((), ((), ())), (v.2.2.2.2, (k.1, (k.2, ()))))))), fun t => (t.2.2.2.2.2.1, t.2.2.2.2.2.2.1), fun t => (t.1.2.2.2.2.1, (t.2.1.1, (t.2.1.2.1, (t.2.1.2.2.1, t.2.2.2.2.1)))), wbn, fun k r => .l (.exit 0 (mkSt ({ slots := [0, 4, 5, 6], sh := (yj [.box 64 0, .box 4 0, .box 5 0, .arr 14]), obs := [Zc, (4, .cells Zz), Zal, (14, .arr 3 yi), (833, .arr 3 yi), (834, .rows 24 3 yi)] }) (((), ((), ((), ((), ())))), ((r.1, (r.2.1, (r.2.2.1, ()))), (((), ((), ())), (((), ((), ())), (r.2.2.2, (k.1, (k.2, ())))))))))⟩
noncomputable def wbo (k : Int × (Int × (Y1 × (Int × (Int × (Y1 × Y1)))))) (v : Int × Y2) : Tr ((Int × Y2) ⊕ Y2) :=
 .t (decide (v.1 < ((length k.2.2.2.2.2.2 : Nat) : Int)))
 (.g (inR k.1 (length v.2)) <|
 .g (decide ((toNat k.1) < length v.2)) <|
 .g (inR v.1 (length k.2.2.2.2.2.1)) <|
 .g (decide ((toNat v.1) < length k.2.2.2.2.2.1)) <|
 .g (inR v.1 (length k.2.2.2.2.2.1)) <|
 .g (decide ((toNat v.1) < length k.2.2.2.2.2.1)) <|
 .c (Int) (whm (wrap .i64 (k.2.1 - (getD k.2.2.2.2.2.1 (toNat v.1) 0))) (wrap .i64 ((getD k.2.2.2.2.2.1 (toNat v.1) 0) - k.2.1))) fun r34_ =>
 .g (inR v.1 (length (getD v.2 (toNat k.1) ([] : Y1)))) <|
 .g (decide ((toNat v.1) < length (getD v.2 (toNat k.1) ([] : Y1)))) <|
 .l (.inl ((wrap .i64 (v.1 + 1)), (set v.2 (toNat k.1) (set (getD v.2 (toNat k.1) ([] : Y1)) (toNat v.1) r34_)))))
 (.l (.inr v.2))
noncomputable def wir (k : Int × (Int × (Y1 × (Int × (Int × (Y1 × Y1)))))) (v : Int × Y2) : Option Y2 := iter (fun v => (wbo k v).ev) v
noncomputable def wex : LD := ⟨{ acts := [], S := { slots := [0, 4, 5, 6, 8, 9, 10], sh := (yj [.box 64 0, .box 4 0, .box 5 0, .arr 14, .dat yi, .dat yi, .dat yi]), obs := [Zc, (4, .cells Zz), Zal, (14, .arr 3 yi), (833, .arr 3 yi), (834, .rows 24 3 yi)] } }, [(4, { acts := [], S := { slots := [0, 4, 5, 6, 8], sh := (yj [.box 64 0, .box 4 0, .box 5 0, .arr 14, .dat yi]), obs := [Zc, (4, .cells Zz), Zal, (14, .arr 3 yi), (833, .arr 3 yi), (834, .rows 24 3 yi)] } })], (yh [] .nil), Int × (Int × (Y1 × (Int × (Int × (Y1 × Y1))))), Int × Y2, List Y1, fun k v => (((), ((), ((), ((), (k.1, (k.2.1, (v.1, ()))))))), ((k.2.2.1, (k.2.2.2.1, (k.2.2.2.2.1, ()))), (((), ((), ())), (((), ((), ())), (k.2.2.2.2.2.1, (k.2.2.2.2.2.2, (v.2, ()))))))), fun t => (t.1.2.2.2.2.1, (t.1.2.2.2.2.2.1, (t.2.1.1, (t.2.1.2.1, (t.2.1.2.2.1, (t.2.2.2.2.1, t.2.2.2.2.2.1)))))), fun t => (t.1.2.2.2.2.2.2.1, t.2.2.2.2.2.2.1), wbo, fun k r => .l (.exit 4 (mkSt ({ slots := [0, 4, 5, 6, 8], sh := (yj [.box 64 0, .box 4 0, .box 5 0, .arr 14, .dat yi]), obs := [Zc, (4, .cells Zz), Zal, (14, .arr 3 yi), (833, .arr 3 yi), (834, .rows 24 3 yi)] }) (((), ((), ((), ((), (k.1, ()))))), ((k.2.2.1, (k.2.2.2.1, (k.2.2.2.2.1, ()))), (((), ((), ())), (((), ((), ())), (k.2.2.2.2.2.1, (k.2.2.2.2.2.2, (r, ())))))))))⟩
noncomputable def wbp (k : Y1 × Y1) (v : Int × Yac) : Tr ((Int × Yac) ⊕ Yac) :=
 .t (decide (v.1 < ((length v.2.2.2.2 : Nat) : Int)))
 (.c Yb (ww (20 : Int) v.2.1 v.2.2.1 v.2.2.2.1) fun r24_ =>
 .c Y2 (wir (v.1, (r24_.1, (r24_.2.1, (r24_.2.2.1, (r24_.2.2.2, (k.1, k.2)))))) ((0 : Int), v.2.2.2.2)) fun r42_ =>
 .l (.inl ((wrap .i64 (v.1 + 1)), (r24_.2.1, (r24_.2.2.1, (r24_.2.2.2, r42_))))))
 (.l (.inr (v.2.1, (v.2.2.1, (v.2.2.2.1, v.2.2.2.2)))))
noncomputable def wis (k : Y1 × Y1) (v : Int × Yac) : Option Yac := iter (fun v => (wbp k v).ev) v
noncomputable def wey : LD := ⟨{ acts := [], S := { slots := [0, 4, 5, 6, 8], sh := (yj [.box 64 0, .box 4 0, .box 5 0, .arr 14, .dat yi]), obs := [Zc, (4, .cells Zz), Zal, (14, .arr 3 yi), (833, .arr 3 yi), (834, .rows 24 3 yi)] } }, [(2, { acts := [], S := { slots := [0, 4, 5], sh := (yj [.box 64 0, .box 4 0, .box 5 0]), obs := [Zc, (4, .cells Zz), Zal, (833, .arr 3 yi), (834, .rows 24 3 yi)] } })], (yh [] .nil), Y1 × Y1, Int × Yac, Y1 × (Int × (Int × Y2)), fun k v => (((), ((), ((), ((), (v.1, ()))))), ((v.2.1, (v.2.2.1, (v.2.2.2.1, ()))), (((), ((), ())), (((), ((), ())), (k.1, (k.2, (v.2.2.2.2, ()))))))), fun t => (t.2.2.2.2.1, t.2.2.2.2.2.1), fun t => (t.1.2.2.2.2.1, (t.2.1.1, (t.2.1.2.1, (t.2.1.2.2.1, t.2.2.2.2.2.2.1)))), wbp, fun k r => .l (.exit 2 (mkSt ({ slots := [0, 4, 5], sh := (yj [.box 64 0, .box 4 0, .box 5 0]), obs := [Zc, (4, .cells Zz), Zal, (833, .arr 3 yi), (834, .rows 24 3 yi)] }) (((), ((), ((), ()))), ((r.1, (r.2.1, (r.2.2.1, ()))), (((), ((), ())), (((), ((), ())), (k.2, (r.2.2.2, ()))))))))⟩
noncomputable def wrp (a4_ : Int) (a1_ : Y1) (a2_ : Int) (a3_ : Int) : Tr Yv :=
 .c Yv (whk a4_ a1_ a2_ a3_) fun r1_ =>
 .c Yar (wiq (r1_.1, r1_.2.1) ((0 : Int), (r1_.2.2.1, (r1_.2.2.2.1, (r1_.2.2.2.2, ([] : Y1)))))) fun r16_ =>
 .c Yac (wis (r16_.2.2.2, r1_.1) ((0 : Int), (r16_.1, (r16_.2.1, (r16_.2.2.1, r1_.2.1))))) fun r48_ =>
 .l (r1_.1, (r48_.2.2.2, (r48_.1, (r48_.2.1, r48_.2.2.1))))
noncomputable def wmr (a4_ : Int) (a1_ : Y1) (a2_ : Int) (a3_ : Int) : Option Yv := (wrp a4_ a1_ a2_ a3_).ev
noncomputable def wajs : RetK := { acts := [.ren 833 1, .ren 834 2], res := [.cell 4 27], sh := (yj [.agg (yj [.arr 1, .arr 2])]), obs := [(1, .arr 3 yi), (2, .rows 24 3 yi), Zc], pins := [(0, 0, 64)] }
noncomputable def wrq : FD := yd (yj [.box 64 0, .dat yi]) [Zc] [.arg 0] Yv (fun x => wmr x.1.2.1 x.2.1.1 x.2.1.2.1 x.2.1.2.2.1) (fun r => ([.agg [.arr 1, .arr 2]], [(1, .arr 3 yi r.1), (2, .rows 24 3 yi r.2.1 none), (64, .cells [.dat Zab r.2.2.1, .dat yi r.2.2.2.1, .dat (.int .u64) r.2.2.2.2])]))
noncomputable def wiu : Env := envOf [(176, wmo), (120, wbh), (197, wmq)]
noncomputable def wiv : List (Nat × LD) := [(0, wew), (4, wex), (2, wey)]
noncomputable def wiw : Code := (f177.body).getD .skip
noncomputable def wbq (k : Y1 × (Y2 × (Y2 × Y1))) (v : Int × Y2) : Tr ((Int × Y2) ⊕ Y2) :=
 .t (decide (v.1 < ((length k.2.1 : Nat) : Int)))
 (.g (inR v.1 (length k.2.1)) <|
 .c Y1 (wad (getD k.2.1 (toNat v.1) ([] : Y1))) fun r8_ =>
 .g (decide ((length v.2 + 1) * 24 ≤ 140737488355328)) <|
 .l (.inl ((wrap .i64 (v.1 + 1)), (set (v.2 ++ [[]]) (length v.2) r8_))))
 (.l (.inr v.2))
noncomputable def wix (k : Y1 × (Y2 × (Y2 × Y1))) (v : Int × Y2) : Option Y2 := iter (fun v => (wbq k v).ev) v
noncomputable def wez : LD := ⟨{ acts := [.ownRB 2 1 900321 24 3 yi, .ownRB 3 1 900331 24 3 yi], S := { slots := [1, 2, 3, 4], sh := (yj [.box 1 0, .box 2 0, .box 3 0, .dat yi]), obs := [(1, .cells Zf), (2, .cells (yj [.nilsl, .arr 900321])), (3, .cells (yj [.arr 448, .arr 900331])), (900321, .rows 24 3 yi), (448, .arr 3 yi), (900331, .rows 24 3 yi)] } }, [(0, { acts := [], S := { slots := [2, 3], sh := (yj [.box 2 0, .box 3 0]), obs := [(2, .cells (yj [.nilsl, .arr 900321])), (3, .cells (yj [.arr 448, .arr 900331])), (900321, .rows 24 3 yi), (448, .arr 3 yi), (900331, .rows 24 3 yi)] } })], (yh [] .nil), Y1 × (Y2 × (Y2 × Y1)), Int × Y2, List Y1, fun k v => (((), ((), ((), (v.1, ())))), ((k.1, (k.2.1, ())), (((), ((), ())), (((), ((), ())), (k.2.2.1, (k.2.2.2, (v.2, ()))))))), fun t => (t.2.1.1, (t.2.1.2.1, (t.2.2.2.2.1, t.2.2.2.2.2.1))), fun t => (t.1.2.2.2.1, t.2.2.2.2.2.2.1), wbq, fun k r => .l (.exit 0 (mkSt ({ slots := [2, 3], sh := (yj [.box 2 0, .box 3 0]), obs := [(2, .cells (yj [.nilsl, .arr 900321])), (3, .cells (yj [.arr 448, .arr 900331])), (900321, .rows 24 3 yi), (448, .arr 3 yi), (900331, .rows 24 3 yi)] }) (((), ((), ())), (((), ((), ())), (((), ((), ())), (k.2.2.1, (k.2.2.2, (r, ()))))))))⟩
noncomputable def wrr (a1_ : Y1) (a2_ : List Y1) : Tr Yy :=
 .c Y1 (wad a1_) fun r1_ =>
 .c Y2 (wix (a1_, (a2_, (([] : List Y1), r1_))) ((0 : Int), ([] : List Y1))) fun r12_ =>
 .l (r1_, r12_)
noncomputable def wms (a1_ : Y1) (a2_ : List Y1) : Option Yy := (wrr a1_ a2_).ev
noncomputable def wajt : RetK := { acts := [.ren 448 1, .ren 900331 4], res := [.cell 2 27], sh := (yj [.agg (yj [.arr 1, .arr 4])]), obs := [(1, .arr 3 yi), (4, .rows 24 3 yi)], pins := [] }
noncomputable def wrs : FD := yd (yj [.agg Zf]) [] [] Yy (fun x => wms x.1.1.1 x.1.1.2.1) (fun r => ([.agg [.arr 1, .arr 4]], [(1, .arr 3 yi r.1), (4, .rows 24 3 yi r.2 none)]))
noncomputable def wrt : Env := envOf [(173, wdi)]
noncomputable def wru : List (Nat × LD) := [(0, wez)]
noncomputable def wrv : Code := (f228.body).getD .skip
noncomputable def wal (k : Int × (Int × Yax)) (v : Int) : Tr ((Int) ⊕ ((Unit) ⊕ (Unit))) :=
 .t (decide (v < ((length k.2.2.2.1 : Nat) : Int)))
 (.g (inR k.1 (length k.2.2.2.2)) <|
 .g (inR k.2.2.1 (length (getD k.2.2.2.2 (toNat k.1) ([] : Y1)))) <|
 .g (inR k.1 (length k.2.2.2.2)) <|
 .g (inR v (length (getD k.2.2.2.2 (toNat k.1) ([] : Y1)))) <|
 .g (inR k.2.1 (length k.2.2.2.2)) <|
 .g (inR v (length (getD k.2.2.2.2 (toNat k.2.1) ([] : Y1)))) <|
 .g (inR k.2.1 (length k.2.2.2.2)) <|
 .g (inR k.2.2.1 (length (getD k.2.2.2.2 (toNat k.2.1) ([] : Y1)))) <|
 .t (decide ((wrap .i64 ((wrap .i64 ((getD (getD k.2.2.2.2 (toNat k.1) ([] : Y1)) (toNat v) (0 : Int)) + (getD (getD k.2.2.2.2 (toNat k.2.1) ([] : Y1)) (toNat v) (0 : Int)))) + (getD (getD k.2.2.2.2 (toNat k.2.1) ([] : Y1)) (toNat k.2.2.1) (0 : Int)))) < (getD (getD k.2.2.2.2 (toNat k.1) ([] : Y1)) (toNat k.2.2.1) (0 : Int))))
 (.l (.inr (.inr ())))
 (.l (.inl (wrap .i64 (v + 1)))))
 (.l (.inr (.inl ())))
noncomputable def wiy (k : Int × (Int × Yax)) (v : Int) : Option ((Unit) ⊕ (Unit)) := iter (fun v => (wal k v).ev) v
noncomputable def wfa : LD := ⟨{ acts := [], S := { slots := [1, 3, 4, 5, 6], sh := (yj [.box 1 0, .dat yi, .dat yi, .dat yi, .dat yi]), obs := [(1, .cells Zf)] } }, [(6, { acts := [], S := { slots := [1, 3, 4, 5], sh := (yj [.box 1 0, .dat yi, .dat yi, .dat yi]), obs := [(1, .cells Zf)] } })], (yh [2] Zp), Int × (Int × Yax), Int, (Unit) ⊕ (Unit), fun k v => (((), (k.1, (k.2.1, (k.2.2.1, (v, ()))))), ((k.2.2.2.1, (k.2.2.2.2, ())), ())), fun t => (t.1.2.1, (t.1.2.2.1, (t.1.2.2.2.1, (t.2.1.1, t.2.1.2.1)))), fun t => t.1.2.2.2.2.1, wal, fun k r => .s (Unit) (Unit) r (fun _ => .l (.exit 6 (mkSt ({ slots := [1, 3, 4, 5], sh := (yj [.box 1 0, .dat yi, .dat yi, .dat yi]), obs := [(1, .cells Zf)] }) (((), (k.1, (k.2.1, (k.2.2.1, ())))), ((k.2.2.2.1, (k.2.2.2.2, ())), ()))))) (fun _ => .l (.ret (mkSt ((ys [2] Zp)) ((false, ()), ()))))⟩
noncomputable def wam (k : Int × Yax) (v : Int) : Tr ((Int) ⊕ ((Unit) ⊕ (Unit))) :=
 .t (decide (v < ((length k.2.2.1 : Nat) : Int)))
 (.c ((Unit) ⊕ (Unit)) (wiy (k.1, (k.2.1, (v, (k.2.2.1, k.2.2.2)))) (0 : Int)) fun r25_ =>
 .s (Unit) (Unit) r25_
 (fun _ => .l (.inl (wrap .i64 (v + 1))))
 (fun _ => .l (.inr (.inr ()))))
 (.l (.inr (.inl ())))
noncomputable def wiz (k : Int × Yax) (v : Int) : Option ((Unit) ⊕ (Unit)) := iter (fun v => (wam k v).ev) v
noncomputable def wfb : LD := ⟨{ acts := [], S := { slots := [1, 3, 4, 5], sh := (yj [.box 1 0, .dat yi, .dat yi, .dat yi]), obs := [(1, .cells Zf)] } }, [(4, { acts := [], S := { slots := [1, 3, 4], sh := (yj [.box 1 0, .dat yi, .dat yi]), obs := [(1, .cells Zf)] } })], (yh [2] Zp), Int × Yax, Int, (Unit) ⊕ (Unit), fun k v => (((), (k.1, (k.2.1, (v, ())))), ((k.2.2.1, (k.2.2.2, ())), ())), fun t => (t.1.2.1, (t.1.2.2.1, (t.2.1.1, t.2.1.2.1))), fun t => t.1.2.2.2.1, wam, fun k r => .s (Unit) (Unit) r (fun _ => .l (.exit 4 (mkSt ({ slots := [1, 3, 4], sh := (yj [.box 1 0, .dat yi, .dat yi]), obs := [(1, .cells Zf)] }) (((), (k.1, (k.2.1, ()))), ((k.2.2.1, (k.2.2.2, ())), ()))))) (fun _ => .l (.ret (mkSt ((ys [2] Zp)) ((false, ()), ()))))⟩
noncomputable def wan (k : Int × Yy) (v : Int) : Tr ((Int) ⊕ ((Unit) ⊕ (Unit))) :=
 .t (decide (v < ((length k.2.2 : Nat) : Int)))
 (.c ((Unit) ⊕ (Unit)) (wiz (k.1, (v, (k.2.1, k.2.2))) (0 : Int)) fun r33_ =>
 .s (Unit) (Unit) r33_
 (fun _ => .l (.inl (wrap .i64 (v + 1))))
 (fun _ => .l (.inr (.inr ()))))
 (.l (.inr (.inl ())))
noncomputable def wja (k : Int × Yy) (v : Int) : Option ((Unit) ⊕ (Unit)) := iter (fun v => (wan k v).ev) v
noncomputable def wfc : LD := ⟨{ acts := [], S := { slots := [1, 3, 4], sh := (yj [.box 1 0, .dat yi, .dat yi]), obs := [(1, .cells Zf)] } }, [(2, { acts := [], S := { slots := [1, 3], sh := (yj [.box 1 0, .dat yi]), obs := [(1, .cells Zf)] } })], (yh [2] Zp), Int × Yy, Int, (Unit) ⊕ (Unit), fun k v => (((), (k.1, (v, ()))), ((k.2.1, (k.2.2, ())), ())), fun t => (t.1.2.1, (t.2.1.1, t.2.1.2.1)), fun t => t.1.2.2.1, wan, fun k r => .s (Unit) (Unit) r (fun _ => .l (.exit 2 (mkSt ({ slots := [1, 3], sh := (yj [.box 1 0, .dat yi]), obs := [(1, .cells Zf)] }) (((), (k.1, ())), ((k.2.1, (k.2.2, ())), ()))))) (fun _ => .l (.ret (mkSt ((ys [2] Zp)) ((false, ()), ()))))⟩
noncomputable def wao (k : Y1 × Y2) (v : Int) : Tr ((Int) ⊕ ((Unit) ⊕ (Unit))) :=
 .t (decide (v < ((length k.2 : Nat) : Int)))
 (.c ((Unit) ⊕ (Unit)) (wja (v, (k.1, k.2)) (0 : Int)) fun r40_ =>
 .s (Unit) (Unit) r40_
 (fun _ => .l (.inl (wrap .i64 (v + 1))))
 (fun _ => .l (.inr (.inr ()))))
 (.l (.inr (.inl ())))
noncomputable def wjb (k : Y1 × Y2) (v : Int) : Option ((Unit) ⊕ (Unit)) := iter (fun v => (wao k v).ev) v
noncomputable def wfd : LD := ⟨{ acts := [], S := { slots := [1, 3], sh := (yj [.box 1 0, .dat yi]), obs := [(1, .cells Zf)] } }, [(0, (yh [] .nil))], (yh [2] Zp), Y1 × Y2, Int, (Unit) ⊕ (Unit), fun k v => (((), (v, ())), ((k.1, (k.2, ())), ())), fun t => (t.2.1.1, t.2.1.2.1), fun t => t.1.2.1, wao, fun _ r => .s (Unit) (Unit) r (fun _ => .l (.exit 0 (mkSt ((ys [] .nil)) ((), ())))) (fun _ => .l (.ret (mkSt ((ys [2] Zp)) ((false, ()), ()))))⟩
noncomputable def wrw (a1_ : Y1) (a2_ : List Y1) : Tr (Bool) :=
 .c ((Unit) ⊕ (Unit)) (wjb (a1_, a2_) (0 : Int)) fun r44_ =>
 .s (Unit) (Unit) r44_
 (fun _ => .l true)
 (fun _ => .l false)
noncomputable def wmt (a1_ : Y1) (a2_ : List Y1) : Option (Bool) := (wrw a1_ a2_).ev
noncomputable def waju : RetK := yr [.tmp 2] Zp
noncomputable def wrx : FD := yd (yj [.agg Zf]) [] [] Bool (fun x => wmt x.1.1.1 x.1.1.2.1) (fun r => ([.dat .bool r], []))
noncomputable def whn : Env := envOf []
noncomputable def whp : List (Nat × LD) := [(6, wfa), (4, wfb), (2, wfc), (0, wfd)]
noncomputable def whq : Code := (f229.body).getD .skip
noncomputable def wry (a1_ : Int) (a2_ : Int) : Tr (Int) :=
 .t (decide (a1_ < a2_))
 (.l a1_)
 (.l a2_)
noncomputable def whr (a1_ : Int) (a2_ : Int) : Option (Int) := (wry a1_ a2_).ev
noncomputable def wajv : RetK := yr [.tmp 4] Zm
noncomputable def wmu : FD := yd (yj [.dat yi, .dat yi]) [] [] Int (fun x => whr x.1.1 x.1.2.1) (fun r => ([.dat yi r], []))
noncomputable def wcz (k : Int × Yi) (v : Int × Y2) : Tr ((Int × Y2) ⊕ Y2) :=
 .t (decide (v.1 < ((length k.2.2.2 : Nat) : Int)))
 (.g (inR k.1 (length v.2)) <|
 .g (decide ((toNat k.1) < length v.2)) <|
 .g (inR k.1 (length v.2)) <|
 .g (decide ((toNat k.1) < length v.2)) <|
 .g (inR k.2.2.1 (length (getD v.2 (toNat k.1) ([] : Y1)))) <|
 .g (decide ((toNat k.2.2.1) < length (getD v.2 (toNat k.1) ([] : Y1)))) <|
 .g (inR k.1 (length v.2)) <|
 .g (decide ((toNat k.1) < length v.2)) <|
 .g (inR v.1 (length (getD v.2 (toNat k.1) ([] : Y1)))) <|
 .g (decide ((toNat v.1) < length (getD v.2 (toNat k.1) ([] : Y1)))) <|
 .g (inR k.2.1 (length v.2)) <|
 .g (decide ((toNat k.2.1) < length v.2)) <|
 .g (inR v.1 (length (getD v.2 (toNat k.2.1) ([] : Y1)))) <|
 .g (decide ((toNat v.1) < length (getD v.2 (toNat k.2.1) ([] : Y1)))) <|
 .g (inR k.2.1 (length v.2)) <|
 .g (decide ((toNat k.2.1) < length v.2)) <|
 .g (inR k.2.2.1 (length (getD v.2 (toNat k.2.1) ([] : Y1)))) <|
 .g (decide ((toNat k.2.2.1) < length (getD v.2 (toNat k.2.1) ([] : Y1)))) <|
 .c (Int) (whr (getD (getD v.2 (toNat k.1) ([] : Y1)) (toNat k.2.2.1) (0 : Int)) (wrap .i64 ((wrap .i64 ((getD (getD v.2 (toNat k.1) ([] : Y1)) (toNat v.1) (0 : Int)) + (getD (getD v.2 (toNat k.2.1) ([] : Y1)) (toNat v.1) (0 : Int)))) + (getD (getD v.2 (toNat k.2.1) ([] : Y1)) (toNat k.2.2.1) (0 : Int))))) fun r23_ =>
 .g (inR k.2.2.1 (length (getD v.2 (toNat k.1) ([] : Y1)))) <|
 .g (decide ((toNat k.2.2.1) < length (getD v.2 (toNat k.1) ([] : Y1)))) <|
 .l (.inl ((wrap .i64 (v.1 + 1)), (set v.2 (toNat k.1) (set (getD v.2 (toNat k.1) ([] : Y1)) (toNat k.2.2.1) r23_)))))
 (.l (.inr v.2))
noncomputable def wjc (k : Int × Yi) (v : Int × Y2) : Option Y2 := iter (fun v => (wcz k v).ev) v
noncomputable def wfe : LD := ⟨{ acts := [], S := { slots := [2, 3, 4, 5, 6, 7], sh := (yj [.box 2 0, .box 3 0, .dat yi, .dat yi, .dat yi, .dat yi]), obs := [(2, .cells Zz), Zw, Zbd, Zao] } }, [(8, { acts := [], S := { slots := [2, 3, 4, 5, 6], sh := (yj [.box 2 0, .box 3 0, .dat yi, .dat yi, .dat yi]), obs := [(2, .cells Zz), Zw, Zbd, Zao] } })], (yh [] .nil), Int × Yi, Int × Y2, List Y1, fun k v => (((), ((), (k.1, (k.2.1, (k.2.2.1, (v.1, ())))))), (((), ((), ())), (((), ((), ())), (k.2.2.2, (v.2, ()))))), fun t => (t.1.2.2.1, (t.1.2.2.2.1, (t.1.2.2.2.2.1, t.2.2.2.1))), fun t => (t.1.2.2.2.2.2.1, t.2.2.2.2.1), wcz, fun k r => .l (.exit 8 (mkSt ({ slots := [2, 3, 4, 5, 6], sh := (yj [.box 2 0, .box 3 0, .dat yi, .dat yi, .dat yi]), obs := [(2, .cells Zz), Zw, Zbd, Zao] }) (((), ((), (k.1, (k.2.1, (k.2.2.1, ()))))), (((), ((), ())), (((), ((), ())), (k.2.2.2, (r, ())))))))⟩
noncomputable def wbr (k : Int × (Int × Y1)) (v : Int × Y2) : Tr ((Int × Y2) ⊕ Y2) :=
 .t (decide (v.1 < ((length k.2.2 : Nat) : Int)))
 (.c Y2 (wjc (k.1, (k.2.1, (v.1, k.2.2))) ((0 : Int), v.2)) fun r29_ =>
 .l (.inl ((wrap .i64 (v.1 + 1)), r29_)))
 (.l (.inr v.2))
noncomputable def wjd (k : Int × (Int × Y1)) (v : Int × Y2) : Option Y2 := iter (fun v => (wbr k v).ev) v
noncomputable def wff : LD := ⟨{ acts := [], S := { slots := [2, 3, 4, 5, 6], sh := (yj [.box 2 0, .box 3 0, .dat yi, .dat yi, .dat yi]), obs := [(2, .cells Zz), Zw, Zbd, Zao] } }, [(6, { acts := [], S := { slots := [2, 3, 4, 5], sh := (yj [.box 2 0, .box 3 0, .dat yi, .dat yi]), obs := [(2, .cells Zz), Zw, Zbd, Zao] } })], (yh [] .nil), Int × (Int × Y1), Int × Y2, List Y1, fun k v => (((), ((), (k.1, (k.2.1, (v.1, ()))))), (((), ((), ())), (((), ((), ())), (k.2.2, (v.2, ()))))), fun t => (t.1.2.2.1, (t.1.2.2.2.1, t.2.2.2.1)), fun t => (t.1.2.2.2.2.1, t.2.2.2.2.1), wbr, fun k r => .l (.exit 6 (mkSt ({ slots := [2, 3, 4, 5], sh := (yj [.box 2 0, .box 3 0, .dat yi, .dat yi]), obs := [(2, .cells Zz), Zw, Zbd, Zao] }) (((), ((), (k.1, (k.2.1, ())))), (((), ((), ())), (((), ((), ())), (k.2.2, (r, ())))))))⟩
noncomputable def wbs (k : Int × Y1) (v : Int × Y2) : Tr ((Int × Y2) ⊕ Y2) :=
 .t (decide (v.1 < ((length v.2 : Nat) : Int)))
 (.c Y2 (wjd (k.1, (v.1, k.2)) ((0 : Int), v.2)) fun r34_ =>
 .l (.inl ((wrap .i64 (v.1 + 1)), r34_)))
 (.l (.inr v.2))
noncomputable def wje (k : Int × Y1) (v : Int × Y2) : Option Y2 := iter (fun v => (wbs k v).ev) v
noncomputable def wfg : LD := ⟨{ acts := [], S := { slots := [2, 3, 4, 5], sh := (yj [.box 2 0, .box 3 0, .dat yi, .dat yi]), obs := [(2, .cells Zz), Zw, Zbd, Zao] } }, [(4, { acts := [], S := { slots := [2, 3, 4], sh := (yj [.box 2 0, .box 3 0, .dat yi]), obs := [(2, .cells Zz), Zw, Zbd, Zao] } })], (yh [] .nil), Int × Y1, Int × Y2, List Y1, fun k v => (((), ((), (k.1, (v.1, ())))), (((), ((), ())), (((), ((), ())), (k.2, (v.2, ()))))), fun t => (t.1.2.2.1, t.2.2.2.1), fun t => (t.1.2.2.2.1, t.2.2.2.2.1), wbs, fun k r => .l (.exit 4 (mkSt ({ slots := [2, 3, 4], sh := (yj [.box 2 0, .box 3 0, .dat yi]), obs := [(2, .cells Zz), Zw, Zbd, Zao] }) (((), ((), (k.1, ()))), (((), ((), ())), (((), ((), ())), (k.2, (r, ())))))))⟩
noncomputable def wbt (k : Y1) (v : Int × Y2) : Tr ((Int × Y2) ⊕ Y2) :=
 .t (decide (v.1 < ((length v.2 : Nat) : Int)))
 (.c Y2 (wje (v.1, k) ((0 : Int), v.2)) fun r38_ =>
 .l (.inl ((wrap .i64 (v.1 + 1)), r38_)))
 (.l (.inr v.2))
noncomputable def wjf (k : Y1) (v : Int × Y2) : Option Y2 := iter (fun v => (wbt k v).ev) v
noncomputable def wfh : LD := ⟨{ acts := [], S := { slots := [2, 3, 4], sh := (yj [.box 2 0, .box 3 0, .dat yi]), obs := [(2, .cells Zz), Zw, Zbd, Zao] } }, [(2, { acts := [], S := { slots := [2, 3], sh := (yj [.box 2 0, .box 3 0]), obs := [(2, .cells Zz), Zw, Zbd, Zao] } })], (yh [] .nil), Y1, Int × Y2, List Y1, fun k v => (((), ((), (v.1, ()))), (((), ((), ())), (((), ((), ())), (k, (v.2, ()))))), fun t => t.2.2.2.1, fun t => (t.1.2.2.1, t.2.2.2.2.1), wbt, fun k r => .l (.exit 2 (mkSt ({ slots := [2, 3], sh := (yj [.box 2 0, .box 3 0]), obs := [(2, .cells Zz), Zw, Zbd, Zao] }) (((), ((), ())), (((), ((), ())), (((), ((), ())), (k, (r, ())))))))⟩
noncomputable def wda (k : Y1) (v : List Y1) : Tr (Y2 ⊕ Y2) :=
 .c (Bool) (wmt k v) fun r4_ =>
 .t (!r4_)
 (.c Y2 (wjf k ((0 : Int), v)) fun r41_ =>
 .l (.inl r41_))
 (.l (.inr v))
noncomputable def wdb (k : Y1) (v : List Y1) : Option Y2 := iter (fun v => (wda k v).ev) v
noncomputable def wfi : LD := ⟨{ acts := [], S := { slots := [2, 3], sh := (yj [.box 2 0, .box 3 0]), obs := [(2, .cells Zz), Zw, Zbd, Zao] } }, [(0, { acts := [], S := { slots := [2, 3], sh := (yj [.box 2 0, .box 3 0]), obs := [(2, .cells Zz), Zw, Zbd, Zao] } })], (yh [] .nil), Y1, List Y1, List Y1, fun k v => (((), ((), ())), (((), ((), ())), (((), ((), ())), (k, (v, ()))))), fun t => t.2.2.2.1, fun t => t.2.2.2.2.1, wda, fun k r => .l (.exit 0 (mkSt ({ slots := [2, 3], sh := (yj [.box 2 0, .box 3 0]), obs := [(2, .cells Zz), Zw, Zbd, Zao] }) (((), ((), ())), (((), ((), ())), (((), ((), ())), (k, (r, ())))))))⟩
noncomputable def wrz (a1_ : Y1) (a2_ : List Y1) : Tr Yy :=
 .c Yy (wms a1_ a2_) fun r1_ =>
 .c Y2 (wdb r1_.1 r1_.2) fun r44_ =>
 .l (r1_.1, r44_)
noncomputable def wmv (a1_ : Y1) (a2_ : List Y1) : Option Yy := (wrz a1_ a2_).ev
noncomputable def wajw : RetK := { acts := [.ren 577 1, .ren 580 4], res := [.cell 2 27], sh := (yj [.agg (yj [.arr 1, .arr 4])]), obs := [(1, .arr 3 yi), (4, .rows 24 3 yi)], pins := [] }
noncomputable def wsa : FD := yd (yj [.agg Zf]) [] [] Yy (fun x => wmv x.1.1.1 x.1.1.2.1) (fun r => ([.agg [.arr 1, .arr 4]], [(1, .arr 3 yi r.1), (4, .rows 24 3 yi r.2 none)]))
noncomputable def wee : Env := envOf [(228, wrs), (229, wrx), (194, wmu)]
noncomputable def wef : List (Nat × LD) := [(8, wfe), (6, wff), (4, wfg), (2, wfh), (0, wfi)]
noncomputable def weg : Code := (f178.body).getD .skip
noncomputable def wsb (a4_ : Int) (a1_ : Y1) (a2_ : Int) (a3_ : Int) : Tr Yv :=
 .c Yb (ww (3 : Int) a1_ a2_ a3_) fun r1_ =>
 .t (r1_.1 == 0)
 (.c Yv (whk a4_ r1_.2.1 r1_.2.2.1 r1_.2.2.2) fun r2_ =>
 .c Yv (whl r2_.2.2.1 r2_.2.2.2.1 r2_.2.2.2.2 r2_.1 r2_.2.1) fun r3_ =>
 .l (r3_.1, (r3_.2.1, (r3_.2.2.1, (r3_.2.2.2.1, r3_.2.2.2.2)))))
 (.t (r1_.1 == 1)
 (.c Yv (wmr a4_ r1_.2.1 r1_.2.2.1 r1_.2.2.2) fun r4_ =>
 .c Yv (whl r4_.2.2.1 r4_.2.2.2.1 r4_.2.2.2.2 r4_.1 r4_.2.1) fun r5_ =>
 .l (r5_.1, (r5_.2.1, (r5_.2.2.1, (r5_.2.2.2.1, r5_.2.2.2.2)))))
 (.c Yv (whk a4_ r1_.2.1 r1_.2.2.1 r1_.2.2.2) fun r6_ =>
 .c Yy (wmv r6_.1 r6_.2.1) fun r7_ =>
 .c Yv (whl r6_.2.2.1 r6_.2.2.2.1 r6_.2.2.2.2 r7_.1 r7_.2) fun r8_ =>
 .l (r8_.1, (r8_.2.1, (r8_.2.2.1, (r8_.2.2.2.1, r8_.2.2.2.2))))))
noncomputable def whs (a4_ : Int) (a1_ : Y1) (a2_ : Int) (a3_ : Int) : Option Yv := (wsb a4_ a1_ a2_ a3_).ev
noncomputable def wajx : RetK := { acts := [.ren 833 1, .ren 1281 1, .ren 1665 1, .ren 834 2, .ren 1282 2, .ren 1666 2], res := [.cell 4 27], sh := (yj [.agg (yj [.arr 1, .arr 2])]), obs := [(1, .arr 3 yi), (2, .rows 24 3 yi), Zc], pins := [(0, 0, 64)] }
noncomputable def wmw : FD := yd (yj [.box 64 0, .dat yi]) [Zc] [.arg 0] Yv (fun x => whs x.1.2.1 x.2.1.1 x.2.1.2.1 x.2.1.2.2.1) (fun r => ([.agg [.arr 1, .arr 2]], [(1, .arr 3 yi r.1), (2, .rows 24 3 yi r.2.1 none), (64, .cells [.dat Zab r.2.2.1, .dat yi r.2.2.2.1, .dat (.int .u64) r.2.2.2.2])]))
noncomputable def wsc (a1_ : Y1) (a2_ : Int) (a3_ : Int) : Tr Yv :=
 .c Yv (whs (7 : Int) a1_ a2_ a3_) fun r1_ =>
 .l (r1_.1, (r1_.2.1, (r1_.2.2.1, (r1_.2.2.2.1, r1_.2.2.2.2))))
noncomputable def wmx (a1_ : Y1) (a2_ : Int) (a3_ : Int) : Option Yv := (wsc a1_ a2_ a3_).ev
noncomputable def wajy : RetK := { acts := [.ren 257 1, .ren 258 3], res := [.cell 2 27], sh := (yj [.agg (yj [.arr 1, .arr 3])]), obs := [(1, .arr 3 yi), (3, .rows 24 3 yi), Zc], pins := [(0, 0, 64)] }
noncomputable def wsd : FD := yd (yj [.box 64 0]) [Zc] [.arg 0] Yv (fun x => wmx x.2.1.1 x.2.1.2.1 x.2.1.2.2.1) (fun r => ([.agg [.arr 1, .arr 3]], [(1, .arr 3 yi r.1), (3, .rows 24 3 yi r.2.1 none), (64, .cells [.dat Zab r.2.2.1, .dat yi r.2.2.2.1, .dat (.int .u64) r.2.2.2.2])]))
noncomputable def wsf (a1_ : Y1) : Tr Yy :=
 .c Yv (wmx a1_ (0 : Int) (0 : Int)) fun r1_ =>
 .l (r1_.1, r1_.2.1)
noncomputable def wmy (a1_ : Y1) : Option Yy := (wsf a1_).ev
noncomputable def wajz : RetK := { acts := [.ren 513 1, .ren 515 3], res := [.cell 2 27], sh := (yj [.agg (yj [.arr 1, .arr 3])]), obs := [(1, .arr 3 yi), (3, .rows 24 3 yi)], pins := [] }
noncomputable def wsg : FD := yd (yj [.dat Zab]) [] [] Yy (fun x => wmy x.1.1) (fun r => ([.agg [.arr 1, .arr 3]], [(1, .arr 3 yi r.1), (3, .rows 24 3 yi r.2 none)]))
noncomputable def wsh (a1_ : Int) (a2_ : Int) (a3_ : Int) : Tr (Bool) :=
 .t (decide (a2_ ≤ a1_))
 (.l (decide (a1_ ≤ a3_)))
 (.l false)
noncomputable def wcs (a1_ : Int) (a2_ : Int) (a3_ : Int) : Option (Bool) := (wsh a1_ a2_ a3_).ev
noncomputable def waka : RetK := yr [.tmp 6] Zp
noncomputable def wdj : FD := yd (yj [.dat yi, .dat yi, .dat yi]) [] [] Bool (fun x => wcs x.1.1 x.1.2.1 x.1.2.2.1) (fun r => ([.dat .bool r], []))
noncomputable def wbu (k : Y1 × (((HL [yi] → Option (Bool))) × Int)) (v : Int) : Tr ((Int) ⊕ ((Unit) ⊕ (Int))) :=
 .t (decide (v < k.2.2))
 (.g (inR v (length k.1)) <|
 .c (Bool) (k.2.1 ((getD k.1 (toNat v) 0), ())) fun r5_ =>
 .t r5_
 (.l (.inr (.inr v)))
 (.l (.inl (wrap .i64 (v + 1)))))
 (.l (.inr (.inl ())))
noncomputable def wjg (k : Y1 × (((HL [yi] → Option (Bool))) × Int)) (v : Int) : Option ((Unit) ⊕ (Int)) := iter (fun v => (wbu k v).ev) v
noncomputable def wfj : LD := ⟨(yh [0, 1, 7, 8] (yj [.dat y1, .clo [yi] .bool, .dat yi, .dat yi])), [(0, (yh [] .nil))], (yh [4] Zm), Y1 × (((HL [yi] → Option (Bool))) × Int), Int, (Unit) ⊕ (Int), fun k v => ((k.1, (k.2.1, (k.2.2, (v, ())))), ()), fun t => (t.1.1, (t.1.2.1, t.1.2.2.1)), fun t => t.1.2.2.2.1, wbu, fun _ r => .s (Unit) (Int) r (fun _ => .l (.exit 0 (mkSt ((ys [] .nil)) ((), ())))) (fun b => .l (.ret (mkSt ((ys [4] Zm)) ((b, ()), ()))))⟩
noncomputable def wsi (a1_ : Y1) (a2_ : (HL [yi] → Option (Bool))) : Tr (Int) :=
 .c ((Unit) ⊕ (Int)) (wjg (a1_, (a2_, ((length a1_ : Nat) : Int))) (0 : Int)) fun r7_ =>
 .s (Unit) (Int) r7_
 (fun _ => .l (-1 : Int))
 (fun r9_ => .l r9_)
noncomputable def wmz (a1_ : Y1) (a2_ : (HL [yi] → Option (Bool))) : Option (Int) := (wsi a1_ a2_).ev
noncomputable def wakb : RetK := yr [.tmp 4] Zm
noncomputable def wsj : FD := yd (yj [.dat y1, .clo [yi] .bool]) [] [] Int (fun x => wmz x.1.1 x.1.2.1) (fun r => ([.dat yi r], []))
noncomputable def wsk : Env := envOf []
noncomputable def wsl : List (Nat × LD) := [(0, wfj)]
noncomputable def wsm : Code := (f206.body).getD .skip
noncomputable def wsn (a1_ : Y1) (a2_ : (HL [yi] → Option (Bool))) : Tr (Bool) :=
 .c (Int) (wmz a1_ a2_) fun r1_ =>
 .l (decide (0 ≤ r1_))
noncomputable def wna (a1_ : Y1) (a2_ : (HL [yi] → Option (Bool))) : Option (Bool) := (wsn a1_ a2_).ev
noncomputable def wakc : RetK := yr [.tmp 4] Zp
noncomputable def wnb : FD := yd (yj [.dat y1, .clo [yi] .bool]) [] [] Bool (fun x => wna x.1.1 x.1.2.1) (fun r => ([.dat .bool r], []))
noncomputable def wso (a1_ : Int) (a2_ : Int) (a3_ : Int) : Tr (Bool) :=
 .c (Bool) (wcs a1_ a2_ a3_) fun r1_ =>
 .l (!r1_)
noncomputable def wsp (a1_ : Int) (a2_ : Int) (a3_ : Int) : Option (Bool) := (wso a1_ a2_ a3_).ev
noncomputable def wakd : RetK := yr [.tmp 4] Zp
noncomputable def wsq : FD := yd (yj [.dat yi, .ptr Zm, .ptr Zm]) [] [] Bool (fun x => wsp x.1.1 x.1.2.1.1 x.1.2.2.1.1) (fun r => ([.dat .bool r], []))
noncomputable def wsr (a1_ : Y1) (a2_ : Int) (a3_ : Int) : Tr (Bool) :=
 .c (Bool) (wna a1_ (fun h1_ => Option.bind (wsp h1_.1 a2_ a3_) fun y2_ => some y2_)) fun r3_ =>
 .l (!r3_)
noncomputable def wjh (a1_ : Y1) (a2_ : Int) (a3_ : Int) : Option (Bool) := (wsr a1_ a2_ a3_).ev
noncomputable def wakf : RetK := yr [.tmp 6] Zp
noncomputable def wnc : FD := yd Zas [] [] Bool (fun x => wjh x.1.1 x.1.2.1 x.1.2.2.1) (fun r => ([.dat .bool r], []))
noncomputable def wbv (k : Y2 × (((HL [y1] → Option (Bool))) × Int)) (v : Int) : Tr ((Int) ⊕ ((Unit) ⊕ (Int))) :=
 .t (decide (v < k.2.2))
 (.g (inR v (length k.1)) <|
 .c (Bool) (k.2.1 ((getD k.1 (toNat v) ([] : Y1)), ())) fun r5_ =>
 .t r5_
 (.l (.inr (.inr v)))
 (.l (.inl (wrap .i64 (v + 1)))))
 (.l (.inr (.inl ())))
noncomputable def wji (k : Y2 × (((HL [y1] → Option (Bool))) × Int)) (v : Int) : Option ((Unit) ⊕ (Int)) := iter (fun v => (wbv k v).ev) v
noncomputable def wfk : LD := ⟨(yh [0, 1, 7, 8] (yj [.dat y2, .clo [y1] .bool, .dat yi, .dat yi])), [(0, (yh [] .nil))], (yh [4] Zm), Y2 × (((HL [y1] → Option (Bool))) × Int), Int, (Unit) ⊕ (Int), fun k v => ((k.1, (k.2.1, (k.2.2, (v, ())))), ()), fun t => (t.1.1, (t.1.2.1, t.1.2.2.1)), fun t => t.1.2.2.2.1, wbv, fun _ r => .s (Unit) (Int) r (fun _ => .l (.exit 0 (mkSt ((ys [] .nil)) ((), ())))) (fun b => .l (.ret (mkSt ((ys [4] Zm)) ((b, ()), ()))))⟩
noncomputable def wss (a1_ : List Y1) (a2_ : (HL [y1] → Option (Bool))) : Tr (Int) :=
 .c ((Unit) ⊕ (Int)) (wji (a1_, (a2_, ((length a1_ : Nat) : Int))) (0 : Int)) fun r7_ =>
 .s (Unit) (Int) r7_
 (fun _ => .l (-1 : Int))
 (fun r9_ => .l r9_)
noncomputable def wnd (a1_ : List Y1) (a2_ : (HL [y1] → Option (Bool))) : Option (Int) := (wss a1_ a2_).ev
noncomputable def wakg : RetK := yr [.tmp 4] Zm
noncomputable def wsu : FD := yd (yj [.dat y2, .clo [y1] .bool]) [] [] Int (fun x => wnd x.1.1 x.1.2.1) (fun r => ([.dat yi r], []))
noncomputable def wsv : Env := envOf []
noncomputable def wsw : List (Nat × LD) := [(0, wfk)]
noncomputable def wsx : Code := (f131.body).getD .skip
noncomputable def wsy (a1_ : List Y1) (a2_ : (HL [y1] → Option (Bool))) : Tr (Bool) :=
 .c (Int) (wnd a1_ a2_) fun r1_ =>
 .l (decide (0 ≤ r1_))
noncomputable def wne (a1_ : List Y1) (a2_ : (HL [y1] → Option (Bool))) : Option (Bool) := (wsy a1_ a2_).ev
noncomputable def wakh : RetK := yr [.tmp 4] Zp
noncomputable def wnf : FD := yd (yj [.dat y2, .clo [y1] .bool]) [] [] Bool (fun x => wne x.1.1 x.1.2.1) (fun r => ([.dat .bool r], []))
noncomputable def T_zw (a1_ : Y1) (a2_ : Y1) (_a3_ : List Y1) : Tr (Bool) :=
 .t (((length a1_ : Nat) : Int) != ((length a2_ : Nat) : Int))
 (.l true)
 (.c (Bool) (wjh a1_ (0 : Int) (99 : Int)) fun r1_ =>
 .l (!r1_))
noncomputable def F_zw (a1_ : Y1) (a2_ : Y1) (a3_ : List Y1) : Option (Bool) := (T_zw a1_ a2_ a3_).ev
noncomputable def K_zw : RetK := yr [.tmp 3] Zp
noncomputable def D_zw : FD := yd (yj [.dat y1, .ptr Zf]) [] [] Bool (fun x => F_zw x.1.1 x.1.2.1.1 x.1.2.1.2.1) (fun r => ([.dat .bool r], []))
noncomputable def T_zv (a1_ : Y1) (a2_ : List Y1) : Tr (Bool) :=
 .c (Bool) (wcs ((length a1_ : Nat) : Int) (1 : Int) (7 : Int)) fun r1_ =>
 .t r1_
 (.c (Bool) (wjh a1_ (0 : Int) (99 : Int)) fun r2_ =>
 .t r2_
 (.t (decide (((length a2_ : Nat) : Int) ≤ (7 : Int)))
 (.c (Bool) (wne a2_ (fun h3_ => Option.bind (F_zw h3_.1 a1_ a2_) fun y4_ => some y4_)) fun r5_ =>
 .l (!r5_))
 (.l false))
 (.l false))
 (.l false)
noncomputable def wsz (a1_ : Y1) (a2_ : List Y1) : Option (Bool) := (T_zv a1_ a2_).ev
noncomputable def K_zv : RetK := yr [.tmp 2] Zp
noncomputable def D_zv : FD := yd (yj [.agg Zf]) [] [] Bool (fun x => wsz x.1.1.1 x.1.1.2.1) (fun r => ([.dat .bool r], []))
noncomputable def wdc (a1_ : Y1) : Option (List Int) := cloneF a1_
noncomputable def wjj : FD := fdClone
noncomputable def wbw (k : Y2 × Int) (v : Int × Y2) : Tr ((Int × Y2) ⊕ Y2) :=
 .t (decide (v.1 < k.2))
 (.g (inR v.1 (length k.1)) <|
 .c (List Int) (wdc (getD k.1 (toNat v.1) ([] : Y1))) fun r5_ =>
 .g (decide ((length v.2 + 1) * 24 ≤ 140737488355328)) <|
 .l (.inl ((wrap .i64 (v.1 + 1)), (set (v.2 ++ [[]]) (length v.2) r5_))))
 (.l (.inr v.2))
noncomputable def wjk (k : Y2 × Int) (v : Int × Y2) : Option Y2 := iter (fun v => (wbw k v).ev) v
noncomputable def wfl : LD := ⟨{ acts := [], S := { slots := [3, 7, 8, 9], sh := (yj [.arr 6, .dat y2, .dat yi, .dat yi]), obs := [(6, .rows 24 3 yi)] } }, [(0, { acts := [], S := { slots := [3], sh := (yj [.arr 6]), obs := [(6, .rows 24 3 yi)] } })], (yh [] .nil), Y2 × (Int), Int × Y2, List Y1, fun k v => (((), (k.1, (k.2, (v.1, ())))), (v.2, ())), fun t => (t.1.2.1, t.1.2.2.1), fun t => (t.1.2.2.2.1, t.2.1), wbw, fun _ r => .l (.exit 0 (mkSt ({ slots := [3], sh := (yj [.arr 6]), obs := [(6, .rows 24 3 yi)] }) (((), ()), (r, ()))))⟩
noncomputable def wta (a1_ : List Y1) : Tr Y2 :=
 .c Y2 (wjk (a1_, ((length a1_ : Nat) : Int)) ((0 : Int), ([] : List Y1))) fun r7_ =>
 .l r7_
noncomputable def wng (a1_ : List Y1) : Option Y2 := (wta a1_).ev
noncomputable def wakl : RetK := { acts := [.ren 6 0], res := [.tmp 2], sh := (yj [.arr 0]), obs := [(0, .rows 24 3 yi)], pins := [] }
noncomputable def wtb : FD := yd (yj [.dat y2]) [] [] (List Y1) (fun x => wng x.1.1) (fun r => ([.arr 0], [(0, .rows 24 3 yi r none)]))
noncomputable def wtc : Nat → Nat → List Nat := fun r i => match look [(1, [(0, [1000000])])] r with
 | some l => (look l i).getD []
 | none => []
noncomputable def wtd : Env := envOf [(146, wjj)]
noncomputable def wte : List (Nat × LD) := [(0, wfl)]
noncomputable def wtf : Code := (f214.body).getD .skip
noncomputable def T_ze (a1_ : Y1) (a2_ : List Y1) (a3_ : Y1) (a4_ : Int) : Tr Yn :=
 .c (List Int) (wdc a1_) fun r1_ =>
 .c Y2 (wng a2_) fun r2_ =>
 .c (List Int) (wdc a3_) fun r3_ =>
 .l (a4_, (r1_, (r2_, r3_)))
noncomputable def F_ze (a1_ : Y1) (a2_ : List Y1) (a3_ : Y1) (a4_ : Int) : Option Yn := (T_ze a1_ a2_ a3_ a4_).ev
noncomputable def K_ze : RetK := { acts := [.ren 384 3, .ren 640 4, .ren 896 5], res := [.cell 2 68], sh := (yj [.agg (yj [.arr 3, .arr 4, .arr 5, .dat yi])]), obs := [(3, .arr 3 yi), (4, .rows 24 3 yi), (5, .arr 3 yi)], pins := [] }
noncomputable def D_ze : FD := yd (yj [.agg Zk]) [] [] Yn (fun x => F_ze x.1.1.1 x.1.1.2.1 x.1.1.2.2.1 x.1.1.2.2.2.1) (fun r => ([.agg [.arr 3, .arr 4, .arr 5, .dat yi r.1]], [(3, .arr 3 yi r.2.1), (4, .rows 24 3 yi r.2.2.1 none), (5, .arr 3 yi r.2.2.2)]))
noncomputable def T_zy (a1_ : Y1) (a2_ : List Y1) : Tr Yh :=
 .c (Bool) (wsz a1_ a2_) fun r1_ =>
 .t (!r1_)
 (.l ((0 : Int), (false, (([] : Y1), (([] : List Y1), ([] : Y1))))))
 (.c Yn (F_ze a1_ a2_ ([] : Y1) (0 : Int)) fun r2_ =>
 .l (r2_.1, (true, (r2_.2.1, (r2_.2.2.1, r2_.2.2.2)))))
noncomputable def F_zy (a1_ : Y1) (a2_ : List Y1) : Option Yh := (T_zy a1_ a2_).ev
noncomputable def K_zy : RetK := { acts := [.ownB 2 0 3 3 yi, .ownRB 2 1 4 24 3 yi, .ownB 2 2 5 3 yi, .ren 643 3, .ren 644 4, .ren 645 5], res := [.cell 2 68, .tmp 3], sh := (yj [.agg (yj [.arr 3, .arr 4, .arr 5, .dat yi]), .dat .bool]), obs := [(3, .arr 3 yi), (4, .rows 24 3 yi), (5, .arr 3 yi)], pins := [] }
noncomputable def D_zy : FD := yd (yj [.agg Zf]) [] [] Yh (fun x => F_zy x.1.1.1 x.1.1.2.1) (fun r => ([.agg [.arr 3, .arr 4, .arr 5, .dat yi r.1], .dat .bool r.2.1], [(3, .arr 3 yi r.2.2.1), (4, .rows 24 3 yi r.2.2.2.1 none), (5, .arr 3 yi r.2.2.2.2)]))
noncomputable def wtg (a1_ : Int) (a2_ : Int) (a3_ : Int) : Tr (Bool) :=
 .t (decide (a2_ ≤ a1_))
 (.l (decide (a1_ ≤ a3_)))
 (.l false)
noncomputable def wap (a1_ : Int) (a2_ : Int) (a3_ : Int) : Option (Bool) := (wtg a1_ a2_ a3_).ev
noncomputable def wakp : RetK := yr [.tmp 6] Zp
noncomputable def wdk : FD := yd (yj [.dat yi, .dat yi, .dat yi]) [] [] Bool (fun x => wap x.1.1 x.1.2.1 x.1.2.2.1) (fun r => ([.dat .bool r], []))
noncomputable def wbx (k : Y1 × Yo) (v : Int) : Tr ((Int) ⊕ ((Unit) ⊕ (Unit))) :=
 .t (decide (v < ((length k.1 : Nat) : Int)))
 (.g (inR v (length k.1)) <|
 .c (Bool) (wap (getD k.1 (toNat v) 0) (0 : Int) k.2.2) fun r5_ =>
 .t (!r5_)
 (.l (.inr (.inr ())))
 (.l (.inl (wrap .i64 (v + 1)))))
 (.l (.inr (.inl ())))
noncomputable def wjl (k : Y1 × Yo) (v : Int) : Option ((Unit) ⊕ (Unit)) := iter (fun v => (wbx k v).ev) v
noncomputable def wfm : LD := ⟨(yh [0, 1, 2, 7] (yj [.dat y1, .dat yi, .dat yi, .dat yi])), [(0, (yh [0, 1] (yj [.dat y1, .dat yi])))], (yh [6] Zp), Y1 × Yo, Int, (Unit) ⊕ (Unit), fun k v => ((k.1, (k.2.1, (k.2.2, (v, ())))), ()), fun t => (t.1.1, (t.1.2.1, t.1.2.2.1)), fun t => t.1.2.2.2.1, wbx, fun k r => .s (Unit) (Unit) r (fun _ => .l (.exit 0 (mkSt ((ys [0, 1] (yj [.dat y1, .dat yi]))) ((k.1, (k.2.1, ())), ())))) (fun _ => .l (.ret (mkSt ((ys [6] Zp)) ((false, ()), ()))))⟩
noncomputable def wth (a1_ : Y1) (a2_ : Int) (a3_ : Int) : Tr (Bool) :=
 .c ((Unit) ⊕ (Unit)) (wjl (a1_, (a2_, a3_)) (0 : Int)) fun r9_ =>
 .s (Unit) (Unit) r9_
 (fun _ => .l (((length a1_ : Nat) : Int) == a2_))
 (fun _ => .l false)
noncomputable def wjm (a1_ : Y1) (a2_ : Int) (a3_ : Int) : Option (Bool) := (wth a1_ a2_ a3_).ev
noncomputable def wakq : RetK := yr [.tmp 6] Zp
noncomputable def wti : FD := yd Zas [] [] Bool (fun x => wjm x.1.1 x.1.2.1 x.1.2.2.1) (fun r => ([.dat .bool r], []))
noncomputable def wtj : Env := envOf [(130, wdk)]
noncomputable def wtk : List (Nat × LD) := [(0, wfm)]
noncomputable def wtl : Code := (f200.body).getD .skip
noncomputable def wby (k : Int × Yy) (v : Int) : Tr ((Int) ⊕ ((Unit) ⊕ (Unit))) :=
 .t (decide (v < ((length k.2.2 : Nat) : Int)))
 (.g (inR v (length k.2.2)) <|
 .c (Bool) (wjm (getD k.2.2 (toNat v) ([] : Y1)) k.1 (99 : Int)) fun r5_ =>
 .t (!r5_)
 (.l (.inr (.inr ())))
 (.l (.inl (wrap .i64 (v + 1)))))
 (.l (.inr (.inl ())))
noncomputable def wjn (k : Int × Yy) (v : Int) : Option ((Unit) ⊕ (Unit)) := iter (fun v => (wby k v).ev) v
noncomputable def wfn : LD := ⟨{ acts := [], S := { slots := [1, 3, 4], sh := (yj [.box 1 0, .dat yi, .dat yi]), obs := [(1, .cells Zf)] } }, [(0, { acts := [], S := { slots := [1, 3], sh := (yj [.box 1 0, .dat yi]), obs := [(1, .cells Zf)] } })], (yh [2] Zp), Int × Yy, Int, (Unit) ⊕ (Unit), fun k v => (((), (k.1, (v, ()))), ((k.2.1, (k.2.2, ())), ())), fun t => (t.1.2.1, (t.2.1.1, t.2.1.2.1)), fun t => t.1.2.2.1, wby, fun k r => .s (Unit) (Unit) r (fun _ => .l (.exit 0 (mkSt ({ slots := [1, 3], sh := (yj [.box 1 0, .dat yi]), obs := [(1, .cells Zf)] }) (((), (k.1, ())), ((k.2.1, (k.2.2, ())), ()))))) (fun _ => .l (.ret (mkSt ((ys [2] Zp)) ((false, ()), ()))))⟩
noncomputable def wtm (a1_ : Y1) (a2_ : List Y1) : Tr (Bool) :=
 .c ((Unit) ⊕ (Unit)) (wjn (((length a1_ : Nat) : Int), (a1_, a2_)) (0 : Int)) fun r10_ =>
 .s (Unit) (Unit) r10_
 (fun _ => .c (Bool) (wap ((length a1_ : Nat) : Int) (1 : Int) (7 : Int)) fun r13_ =>
 .t r13_
 (.c (Bool) (wjm a1_ ((length a1_ : Nat) : Int) (99 : Int)) fun r14_ =>
 .t r14_
 (.l (decide (((length a2_ : Nat) : Int) ≤ (7 : Int))))
 (.l false))
 (.l false))
 (fun _ => .l false)
noncomputable def wht (a1_ : Y1) (a2_ : List Y1) : Option (Bool) := (wtm a1_ a2_).ev
noncomputable def wakr : RetK := yr [.tmp 2] Zp
noncomputable def wjo : FD := yd (yj [.agg Zf]) [] [] Bool (fun x => wht x.1.1.1 x.1.1.2.1) (fun r => ([.dat .bool r], []))
noncomputable def wtn : Env := envOf [(200, wti), (130, wdk)]
noncomputable def wto : List (Nat × LD) := [(0, wfn)]
noncomputable def wtp : Code := (f166.body).getD .skip
noncomputable def waq (k : Y1 × Yo) (v : Int) : Tr ((Int) ⊕ ((Unit) ⊕ (Unit))) :=
 .t (decide (v < ((length k.1 : Nat) : Int)))
 (.g (inR v (length k.1)) <|
 .c (Bool) (wap (getD k.1 (toNat v) 0) k.2.1 k.2.2) fun r5_ =>
 .t (!r5_)
 (.l (.inr (.inr ())))
 (.t (decide (0 < v))
 (.g (inR (wrap .i64 (v - 1)) (length k.1)) <|
 .g (inR v (length k.1)) <|
 .t (decide ((getD k.1 (toNat v) 0) ≤ (getD k.1 (toNat (wrap .i64 (v - 1))) (0 : Int))))
 (.l (.inr (.inr ())))
 (.l (.inl (wrap .i64 (v + 1)))))
 (.l (.inl (wrap .i64 (v + 1))))))
 (.l (.inr (.inl ())))
noncomputable def wjp (k : Y1 × Yo) (v : Int) : Option ((Unit) ⊕ (Unit)) := iter (fun v => (waq k v).ev) v
noncomputable def wfo : LD := ⟨(yh [0, 1, 2, 7] (yj [.dat y1, .dat yi, .dat yi, .dat yi])), [(0, (yh [] .nil))], (yh [6] Zp), Y1 × Yo, Int, (Unit) ⊕ (Unit), fun k v => ((k.1, (k.2.1, (k.2.2, (v, ())))), ()), fun t => (t.1.1, (t.1.2.1, t.1.2.2.1)), fun t => t.1.2.2.2.1, waq, fun _ r => .s (Unit) (Unit) r (fun _ => .l (.exit 0 (mkSt ((ys [] .nil)) ((), ())))) (fun _ => .l (.ret (mkSt ((ys [6] Zp)) ((false, ()), ()))))⟩
noncomputable def wtq (a1_ : Y1) (a2_ : Int) (a3_ : Int) : Tr (Bool) :=
 .c ((Unit) ⊕ (Unit)) (wjp (a1_, (a2_, a3_)) (0 : Int)) fun r7_ =>
 .s (Unit) (Unit) r7_
 (fun _ => .l true)
 (fun _ => .l false)
noncomputable def wnh (a1_ : Y1) (a2_ : Int) (a3_ : Int) : Option (Bool) := (wtq a1_ a2_ a3_).ev
noncomputable def waks : RetK := yr [.tmp 6] Zp
noncomputable def wtr : FD := yd Zas [] [] Bool (fun x => wnh x.1.1 x.1.2.1 x.1.2.2.1) (fun r => ([.dat .bool r], []))
noncomputable def wts : Env := envOf [(130, wdk)]
noncomputable def wtu : List (Nat × LD) := [(0, wfo)]
noncomputable def wtv : Code := (f122.body).getD .skip
noncomputable def wtw (a1_ : Y1) (_a2_ : List Y1) (a3_ : Y1) : Tr (Bool) :=
 .c (Bool) (wnh a3_ (0 : Int) (wrap .i64 (((length a1_ : Nat) : Int) - 1))) fun r1_ =>
 .l r1_
noncomputable def wjq (a1_ : Y1) (a2_ : List Y1) (a3_ : Y1) : Option (Bool) := (wtw a1_ a2_ a3_).ev
noncomputable def wakt : RetK := yr [.tmp 4] Zp
noncomputable def wni : FD := yd (yj [.agg Zf, .dat y1]) [] [] Bool (fun x => wjq x.1.1.1 x.1.1.2.1 x.1.2.1) (fun r => ([.dat .bool r], []))
noncomputable def wtx (a1_ : Y1) (a2_ : List Y1) (a3_ : Y1) (a4_ : Int) : Tr (Bool) :=
 .c (Bool) (wht a1_ a2_) fun r1_ =>
 .t r1_
 (.c (Bool) (wjq a1_ a2_ a3_) fun r2_ =>
 .t r2_
 (.c (Bool) (wap a4_ (0 : Int) (1000 : Int)) fun r3_ =>
 .l r3_)
 (.l false))
 (.l false)
noncomputable def wdd (a1_ : Y1) (a2_ : List Y1) (a3_ : Y1) (a4_ : Int) : Option (Bool) := (wtx a1_ a2_ a3_ a4_).ev
noncomputable def waku : RetK := yr [.tmp 2] Zp
noncomputable def wdl : FD := yd (yj [.agg Zk]) [] [] Bool (fun x => wdd x.1.1.1 x.1.1.2.1 x.1.1.2.2.1 x.1.1.2.2.2.1) (fun r => ([.dat .bool r], []))
noncomputable def wbz (k : Y1 × (Y2 × (Y1 × (Int × (Int × (Y2 × Y1)))))) (v : Int × Y2) : Tr ((Int × Y2) ⊕ Y2) :=
 .t (decide (v.1 < ((length k.2.1 : Nat) : Int)))
 (.g (inR v.1 (length k.2.1)) <|
 .c Y1 (wad (getD k.2.1 (toNat v.1) ([] : Y1))) fun r11_ =>
 .g (decide ((length v.2 + 1) * 24 ≤ 140737488355328)) <|
 .l (.inl ((wrap .i64 (v.1 + 1)), (set (v.2 ++ [[]]) (length v.2) r11_))))
 (.l (.inr v.2))
noncomputable def wjr (k : Y1 × (Y2 × (Y1 × (Int × (Int × (Y2 × Y1)))))) (v : Int × Y2) : Option Y2 := iter (fun v => (wbz k v).ev) v
noncomputable def wfp : LD := ⟨{ acts := [.ownRB 2 1 900321 24 3 yi], S := { slots := [1, 2, 3, 4], sh := (yj [.box 1 0, .box 2 0, .box 3 0, .dat yi]), obs := [(1, .cells Zk), (2, .cells (yj [.nilsl, .arr 900321, .nilsl, .dat yi])), (3, .cells (yj [.arr 512, .arr 9])), (900321, .rows 24 3 yi), (512, .arr 3 yi), (9, .rows 24 3 yi)] } }, [(0, { acts := [], S := { slots := [1, 2, 3], sh := (yj [.box 1 0, .box 2 0, .box 3 0]), obs := [(1, .cells Zk), (2, .cells (yj [.nilsl, .arr 900321, .nilsl, .dat yi])), (3, .cells (yj [.arr 512, .arr 9])), (900321, .rows 24 3 yi), (512, .arr 3 yi), (9, .rows 24 3 yi)] } })], (yh [] .nil), Y1 × (Y2 × (Y1 × (Int × (Int × (Y2 × Y1))))), Int × Y2, List Y1, fun k v => (((), ((), ((), (v.1, ())))), ((k.1, (k.2.1, (k.2.2.1, (k.2.2.2.1, ())))), (((), ((), ((), (k.2.2.2.2.1, ())))), (((), ((), ())), (k.2.2.2.2.2.1, (k.2.2.2.2.2.2, (v.2, ()))))))), fun t => (t.2.1.1, (t.2.1.2.1, (t.2.1.2.2.1, (t.2.1.2.2.2.1, (t.2.2.1.2.2.2.1, (t.2.2.2.2.1, t.2.2.2.2.2.1)))))), fun t => (t.1.2.2.2.1, t.2.2.2.2.2.2.1), wbz, fun k r => .l (.exit 0 (mkSt ({ slots := [1, 2, 3], sh := (yj [.box 1 0, .box 2 0, .box 3 0]), obs := [(1, .cells Zk), (2, .cells (yj [.nilsl, .arr 900321, .nilsl, .dat yi])), (3, .cells (yj [.arr 512, .arr 9])), (900321, .rows 24 3 yi), (512, .arr 3 yi), (9, .rows 24 3 yi)] }) (((), ((), ((), ()))), ((k.1, (k.2.1, (k.2.2.1, (k.2.2.2.1, ())))), (((), ((), ((), (k.2.2.2.2.1, ())))), (((), ((), ())), (k.2.2.2.2.2.1, (k.2.2.2.2.2.2, (r, ())))))))))⟩
noncomputable def wty (a1_ : Y1) (a2_ : List Y1) (a3_ : Y1) (a4_ : Int) : Tr Yn :=
 .c Y1 (wad a1_) fun r1_ =>
 .c Y2 (wjr (a1_, (a2_, (a3_, (a4_, ((0 : Int), (([] : List Y1), r1_)))))) ((0 : Int), ([] : List Y1))) fun r20_ =>
 .c Y1 (wad a3_) fun r21_ =>
 .l (a4_, (r1_, (r20_, r21_)))
noncomputable def weh (a1_ : Y1) (a2_ : List Y1) (a3_ : Y1) (a4_ : Int) : Option Yn := (wty a1_ a2_ a3_ a4_).ev
noncomputable def wakv : RetK := { acts := [.ren 512 4, .ren 9 5, .ren 2176 6], res := [.cell 2 68], sh := (yj [.agg (yj [.arr 4, .arr 5, .arr 6, .dat yi])]), obs := [(4, .arr 3 yi), (5, .rows 24 3 yi), (6, .arr 3 yi)], pins := [] }
noncomputable def whu : FD := yd (yj [.agg Zk]) [] [] Yn (fun x => weh x.1.1.1 x.1.1.2.1 x.1.1.2.2.1 x.1.1.2.2.2.1) (fun r => ([.agg [.arr 4, .arr 5, .arr 6, .dat yi r.1]], [(4, .arr 3 yi r.2.1), (5, .rows 24 3 yi r.2.2.1 none), (6, .arr 3 yi r.2.2.2)]))
noncomputable def wtz : Nat → Nat → List Nat := fun r i => match look [(1, [(4, [1000000])])] r with
 | some l => (look l i).getD []
 | none => []
noncomputable def wua : Env := envOf [(173, wdi)]
noncomputable def wub : List (Nat × LD) := [(0, wfp)]
noncomputable def wuc : Code := (f156.body).getD .skip
noncomputable def wud (a1_ : Y1) (a2_ : List Y1) : Tr Yh :=
 .c (Bool) (wdd a1_ a2_ ([] : Y1) (0 : Int)) fun r1_ =>
 .t (!r1_)
 (.l ((0 : Int), (false, (([] : Y1), (([] : List Y1), ([] : Y1))))))
 (.c Yn (weh a1_ a2_ ([] : Y1) (0 : Int)) fun r2_ =>
 .l (r2_.1, (true, (r2_.2.1, (r2_.2.2.1, r2_.2.2.2)))))
noncomputable def wnj (a1_ : Y1) (a2_ : List Y1) : Option Yh := (wud a1_ a2_).ev
noncomputable def wakw : RetK := { acts := [.ownB 2 0 3 3 yi, .ownRB 2 1 5 24 3 yi, .ownB 2 2 6 3 yi, .ren 772 3, .ren 773 5, .ren 774 6], res := [.cell 2 68, .tmp 3], sh := (yj [.agg (yj [.arr 3, .arr 5, .arr 6, .dat yi]), .dat .bool]), obs := [(3, .arr 3 yi), (5, .rows 24 3 yi), (6, .arr 3 yi)], pins := [] }
noncomputable def wue : FD := yd (yj [.agg Zf]) [] [] Yh (fun x => wnj x.1.1.1 x.1.1.2.1) (fun r => ([.agg [.arr 3, .arr 5, .arr 6, .dat yi r.1], .dat .bool r.2.1], [(3, .arr 3 yi r.2.2.1), (5, .rows 24 3 yi r.2.2.2.1 none), (6, .arr 3 yi r.2.2.2.2)]))
noncomputable def wuf (a1_ : Y1) (a2_ : Int) : Tr Y1 :=
 .t (decide (((length a1_ : Nat) : Int) < a2_))
 (.g (decide ((0 : Int) ≤ ((length a1_ : Nat) : Int)) && decide (((length a1_ : Nat) : Int) ≤ ((length a1_ : Nat) : Int))) <|
 .g (decide ((length ([] : Y1) + length (List.drop (toNat ((length a1_ : Nat) : Int)) (List.take (length a1_) a1_))) * 1 ≤ 140737488355328)) <|
 .g (decide ((length (([] : Y1) ++ (List.drop (toNat ((length a1_ : Nat) : Int)) (List.take (length a1_) a1_))) + length ([(wrap .u8 ((length a1_ : Nat) : Int))] : Y1)) * 1 ≤ 140737488355328)) <|
 .l ((([] : Y1) ++ (List.drop (toNat ((length a1_ : Nat) : Int)) (List.take (length a1_) a1_))) ++ ([(wrap .u8 ((length a1_ : Nat) : Int))] : Y1)))
 (.g (decide (0 ≤ a2_) && decide (a2_ ≤ ((length a1_ : Nat) : Int))) <|
 .g (decide ((length ([] : Y1) + length (List.drop (toNat a2_) (List.take (length a1_) a1_))) * 1 ≤ 140737488355328)) <|
 .g (decide ((length (([] : Y1) ++ (List.drop (toNat a2_) (List.take (length a1_) a1_))) + length ([(wrap .u8 a2_)] : Y1)) * 1 ≤ 140737488355328)) <|
 .l ((([] : Y1) ++ (List.drop (toNat a2_) (List.take (length a1_) a1_))) ++ ([(wrap .u8 a2_)] : Y1)))
noncomputable def wjs (a1_ : Y1) (a2_ : Int) : Option Y1 := (wuf a1_ a2_).ev
noncomputable def wakx : RetK := { acts := [.ren 11 0], res := [.tmp 4], sh := (yj [.arr 0]), obs := [(0, .arr 5 (.int .u8))], pins := [] }
noncomputable def wug : FD := yd (yj [.dat Zab, .dat yi]) [] [] Y1 (fun x => wjs x.1.1 x.1.2.1) (fun r => ([.arr 0], [(0, .arr 5 (.int .u8) r)]))
noncomputable def wuh (a4_ : Int) (a1_ : Y1) (a2_ : Int) (a3_ : Int) : Tr (Bool × (Y1 × Yo)) :=
 .c Yb (ww a4_ a1_ a2_ a3_) fun r1_ =>
 .l ((r1_.1 == 0), (r1_.2.1, (r1_.2.2.1, r1_.2.2.2)))
noncomputable def whv (a4_ : Int) (a1_ : Y1) (a2_ : Int) (a3_ : Int) : Option (Bool × (Y1 × Yo)) := (wuh a4_ a1_ a2_ a3_).ev
noncomputable def waky : RetK := { acts := [], res := [.tmp 4], sh := Zp, obs := [Zc], pins := [(0, 0, 64)] }
noncomputable def wnk : FD := yd (yj [.box 64 0, .dat yi]) [Zc] [.arg 0] (Bool × (Y1 × Yo)) (fun x => whv x.1.2.1 x.2.1.1 x.2.1.2.1 x.2.1.2.2.1) (fun r => ([.dat .bool r.1], [(64, .cells [.dat Zab r.2.1, .dat yi r.2.2.1, .dat (.int .u64) r.2.2.2])]))
noncomputable def war (k : Int × Int) (v : Int × Y1) : Tr ((Int × Y1) ⊕ Y1) :=
 .t (decide (v.1 < k.1))
 (.g (decide (0 ≤ v.1)) <|
 .t ((wrap .i64 (BitVec.toNat ((BitVec.ofInt (IntKind.bits .i64) (Int.fdiv k.2 (2 ^ (min (toNat v.1) (IntKind.bits .i64))))) &&& (BitVec.ofInt (IntKind.bits .i64) (1 : Int))))) == (1 : Int))
 (.g (decide ((length v.2 + length ([v.1] : Y1)) * 8 ≤ 140737488355328)) <|
 .l (.inl ((wrap .i64 (v.1 + 1)), (v.2 ++ ([v.1] : Y1)))))
 (.l (.inl ((wrap .i64 (v.1 + 1)), v.2))))
 (.l (.inr v.2))
noncomputable def wjt (k : Int × Int) (v : Int × Y1) : Option Y1 := iter (fun v => (war k v).ev) v
noncomputable def wfq : LD := ⟨{ acts := [], S := { slots := [0, 1, 5, 6], sh := (yj [.dat yi, .dat yi, .arr 7, .dat yi]), obs := [(7, .arr 3 yi)] } }, [(0, { acts := [], S := { slots := [5], sh := (yj [.arr 7]), obs := [(7, .arr 3 yi)] } })], (yh [] .nil), Int × (Int), Int × Y1, Y1, fun k v => ((k.1, (k.2, ((), (v.1, ())))), (v.2, ())), fun t => (t.1.1, t.1.2.1), fun t => (t.1.2.2.2.1, t.2.1), war, fun _ r => .l (.exit 0 (mkSt ({ slots := [5], sh := (yj [.arr 7]), obs := [(7, .arr 3 yi)] }) (((), ()), (r, ()))))⟩
noncomputable def wui (a1_ : Int) (a2_ : Int) : Tr Y1 :=
 .c Y1 (wjt (a1_, a2_) ((0 : Int), ([] : Y1))) fun r6_ =>
 .l r6_
noncomputable def whw (a1_ : Int) (a2_ : Int) : Option Y1 := (wui a1_ a2_).ev
noncomputable def wakz : RetK := { acts := [.ren 7 0], res := [.tmp 4], sh := (yj [.arr 0]), obs := [Zbe], pins := [] }
noncomputable def wnl : FD := yd (yj [.dat yi, .dat yi]) [] [] Y1 (fun x => whw x.1.1 x.1.2.1) (fun r => ([.arr 0], [(0, .arr 3 yi r)]))
noncomputable def wuj : Env := envOf []
noncomputable def wuk : List (Nat × LD) := [(0, wfq)]
noncomputable def wul : Code := (f119.body).getD .skip
noncomputable def wat (k : Int) (v : Int × Yar) : Tr ((Int × Yar) ⊕ Yar) :=
 .t (decide (v.1 < k))
 (.t (decide (v.1 < 7))
 (.c Yb (ww (20 : Int) v.2.1 v.2.2.1 v.2.2.2.1) fun r7_ =>
 .g (decide ((length v.2.2.2.2 + length ([r7_.1] : Y1)) * 8 ≤ 140737488355328)) <|
 .l (.inl ((wrap .i64 (v.1 + 1)), (r7_.2.1, (r7_.2.2.1, (r7_.2.2.2, (v.2.2.2.2 ++ ([r7_.1] : Y1))))))))
 (.l (.inr (v.2.1, (v.2.2.1, (v.2.2.2.1, v.2.2.2.2))))))
 (.l (.inr (v.2.1, (v.2.2.1, (v.2.2.2.1, v.2.2.2.2)))))
noncomputable def wju (k : Int) (v : Int × Yar) : Option Yar := iter (fun v => (wat k v).ev) v
noncomputable def wfr : LD := ⟨{ acts := [], S := { slots := [0, 1, 5, 6], sh := (yj [.box 64 0, .dat yi, .arr 7, .dat yi]), obs := [Zc, (7, .arr 3 yi)] } }, [(0, { acts := [], S := { slots := [0, 5], sh := (yj [.box 64 0, .arr 7]), obs := [Zc, (7, .arr 3 yi)] } })], (yh [] .nil), Int, Int × Yar, Y1 × Yi, fun k v => (((), (k, ((), (v.1, ())))), ((v.2.1, (v.2.2.1, (v.2.2.2.1, ()))), (v.2.2.2.2, ()))), fun t => t.1.2.1, fun t => (t.1.2.2.2.1, (t.2.1.1, (t.2.1.2.1, (t.2.1.2.2.1, t.2.2.1)))), wat, fun _ r => .l (.exit 0 (mkSt ({ slots := [0, 5], sh := (yj [.box 64 0, .arr 7]), obs := [Zc, (7, .arr 3 yi)] }) (((), ((), ())), ((r.1, (r.2.1, (r.2.2.1, ()))), (r.2.2.2, ())))))⟩
noncomputable def wum (a4_ : Int) (a1_ : Y1) (a2_ : Int) (a3_ : Int) : Tr Yag :=
 .c Yar (wju a4_ ((0 : Int), (a1_, (a2_, (a3_, ([] : Y1)))))) fun r12_ =>
 .c (Bool × (Y1 × Yo)) (whv (12 : Int) r12_.1 r12_.2.1 r12_.2.2.1) fun r13_ =>
 .t r13_.1
 (.c Yb (wu ([(0 : Int), (-1 : Int), (100 : Int)] : Y1) r13_.2.1 r13_.2.2.1 r13_.2.2.2) fun r14_ =>
 .g (decide ((length r12_.2.2.2 + length ([r14_.1] : Y1)) * 8 ≤ 140737488355328)) <|
 .l ((r12_.2.2.2 ++ ([r14_.1] : Y1)), (r14_.2.1, (r14_.2.2.1, r14_.2.2.2))))
 (.l (r12_.2.2.2, (r13_.2.1, (r13_.2.2.1, r13_.2.2.2))))
noncomputable def wct (a4_ : Int) (a1_ : Y1) (a2_ : Int) (a3_ : Int) : Option Yag := (wum a4_ a1_ a2_ a3_).ev
noncomputable def wala : RetK := { acts := [.ren 7 0], res := [.tmp 4], sh := (yj [.arr 0]), obs := [Zbe, Zc], pins := [(0, 0, 64)] }
noncomputable def wun : FD := yd (yj [.box 64 0, .dat yi]) [Zc] [.arg 0] Yag (fun x => wct x.1.2.1 x.2.1.1 x.2.1.2.1 x.2.1.2.2.1) (fun r => ([.arr 0], [(0, .arr 3 yi r.1), (64, .cells [.dat Zab r.2.1, .dat yi r.2.2.1, .dat (.int .u64) r.2.2.2])]))
noncomputable def wuo : Nat → Nat → List Nat := fun r i => match look [(7, [(3, [26])])] r with
 | some l => (look l i).getD []
 | none => []
noncomputable def wup : Env := envOf [(120, wbh), (121, wnk), (83, wed)]
noncomputable def wuq : List (Nat × LD) := [(0, wfr)]
noncomputable def wur : Code := (f220.body).getD .skip
noncomputable def wno (a4_ : Y1) (a5_ : List Y1) (a1_ : Y1) (a2_ : Int) (a3_ : Int) : Tr Ybf :=
 .c Yb (ww (11 : Int) a1_ a2_ a3_) fun r1_ =>
 .c (Int) (whr ((length a4_ : Nat) : Int) (7 : Int)) fun r2_ =>
 .c (Int) (whm (1 : Int) r2_) fun r3_ =>
 .c (Int) (whr ((length a5_ : Nat) : Int) (7 : Int)) fun r4_ =>
 .c (Int) (whm (1 : Int) r4_) fun r5_ =>
 .t ((wrap .i64 ((1 : Int) + r1_.1)) == (1 : Int))
 (.t ((wrap .i64 ((1 : Int) + r1_.1)) == (1 : Int))
 (.c Yb (ww r3_ r1_.2.1 r1_.2.2.1 r1_.2.2.2) fun r6_ =>
 .c Yb (ww (32 : Int) r6_.2.1 r6_.2.2.1 r6_.2.2.2) fun r7_ =>
 .t (r7_.1 == 0)
 (.c Yb (wu ([(-1 : Int), (7 : Int), (4611686018427387904 : Int)] : Y1) r7_.2.1 r7_.2.2.1 r7_.2.2.2) fun r8_ =>
 .l ((wrap .i64 ((1 : Int) + r1_.1)), (r8_.1, ((0 : Int), ((0 : Int), (([] : Y1), (r8_.2.1, (r8_.2.2.1, r8_.2.2.2))))))))
 (.t (r7_.1 == 1)
 (.c Yb (wu ([(-1 : Int), (1 : Int)] : Y1) r7_.2.1 r7_.2.2.1 r7_.2.2.2) fun r9_ =>
 .l ((wrap .i64 ((1 : Int) + r1_.1)), (r6_.1, ((0 : Int), (r9_.1, (([] : Y1), (r9_.2.1, (r9_.2.2.1, r9_.2.2.2))))))))
 (.t (r7_.1 == 2)
 (.c Yb (wu ([(0 : Int), (12 : Int), (-1 : Int)] : Y1) r7_.2.1 r7_.2.2.1 r7_.2.2.2) fun r10_ =>
 .l (r10_.1, (r6_.1, ((0 : Int), ((0 : Int), (([] : Y1), (r10_.2.1, (r10_.2.2.1, r10_.2.2.2))))))))
 (.t (r7_.1 == 3)
 (.g (decide (length ([(1 : Int)] : Y1) * 8 ≤ 140737488355328)) <|
 .l ((wrap .i64 ((1 : Int) + r1_.1)), (r6_.1, ((0 : Int), ((0 : Int), (([(1 : Int)] : Y1), (r7_.2.1, (r7_.2.2.1, r7_.2.2.2))))))))
 (.l ((wrap .i64 ((1 : Int) + r1_.1)), (r6_.1, ((0 : Int), ((0 : Int), (([] : Y1), (r7_.2.1, (r7_.2.2.1, r7_.2.2.2))))))))))))
 (.t ((wrap .i64 ((1 : Int) + r1_.1)) == (3 : Int))
 (.c Yb (ww r3_ r1_.2.1 r1_.2.2.1 r1_.2.2.2) fun r11_ =>
 .c Yb (ww r3_ r11_.2.1 r11_.2.2.1 r11_.2.2.2) fun r12_ =>
 .c Yb (ww (32 : Int) r12_.2.1 r12_.2.2.1 r12_.2.2.2) fun r13_ =>
 .t (r13_.1 == 0)
 (.c Yb (wu ([(-1 : Int), (7 : Int), (4611686018427387904 : Int)] : Y1) r13_.2.1 r13_.2.2.1 r13_.2.2.2) fun r14_ =>
 .l ((wrap .i64 ((1 : Int) + r1_.1)), (r14_.1, (r12_.1, ((0 : Int), (([] : Y1), (r14_.2.1, (r14_.2.2.1, r14_.2.2.2))))))))
 (.t (r13_.1 == 1)
 (.c Yb (wu ([(-1 : Int), (1 : Int)] : Y1) r13_.2.1 r13_.2.2.1 r13_.2.2.2) fun r15_ =>
 .l ((wrap .i64 ((1 : Int) + r1_.1)), (r11_.1, (r12_.1, (r15_.1, (([] : Y1), (r15_.2.1, (r15_.2.2.1, r15_.2.2.2))))))))
 (.t (r13_.1 == 2)
 (.c Yb (wu ([(0 : Int), (12 : Int), (-1 : Int)] : Y1) r13_.2.1 r13_.2.2.1 r13_.2.2.2) fun r16_ =>
 .l (r16_.1, (r11_.1, (r12_.1, ((0 : Int), (([] : Y1), (r16_.2.1, (r16_.2.2.1, r16_.2.2.2))))))))
 (.t (r13_.1 == 3)
 (.g (decide (length ([(1 : Int)] : Y1) * 8 ≤ 140737488355328)) <|
 .l ((wrap .i64 ((1 : Int) + r1_.1)), (r11_.1, (r12_.1, ((0 : Int), (([(1 : Int)] : Y1), (r13_.2.1, (r13_.2.2.1, r13_.2.2.2))))))))
 (.l ((wrap .i64 ((1 : Int) + r1_.1)), (r11_.1, (r12_.1, ((0 : Int), (([] : Y1), (r13_.2.1, (r13_.2.2.1, r13_.2.2.2))))))))))))
 (.t ((wrap .i64 ((1 : Int) + r1_.1)) == (4 : Int))
 (.c Yb (ww r3_ r1_.2.1 r1_.2.2.1 r1_.2.2.2) fun r17_ =>
 .c Yb (wu ([(0 : Int), (3 : Int), (10 : Int), (99 : Int), (100 : Int)] : Y1) r17_.2.1 r17_.2.2.1 r17_.2.2.2) fun r18_ =>
 .c Yb (ww (32 : Int) r18_.2.1 r18_.2.2.1 r18_.2.2.2) fun r19_ =>
 .t (r19_.1 == 0)
 (.c Yb (wu ([(-1 : Int), (7 : Int), (4611686018427387904 : Int)] : Y1) r19_.2.1 r19_.2.2.1 r19_.2.2.2) fun r20_ =>
 .l ((wrap .i64 ((1 : Int) + r1_.1)), (r20_.1, (r18_.1, ((0 : Int), (([] : Y1), (r20_.2.1, (r20_.2.2.1, r20_.2.2.2))))))))
 (.t (r19_.1 == 1)
 (.c Yb (wu ([(-1 : Int), (1 : Int)] : Y1) r19_.2.1 r19_.2.2.1 r19_.2.2.2) fun r21_ =>
 .l ((wrap .i64 ((1 : Int) + r1_.1)), (r17_.1, (r18_.1, (r21_.1, (([] : Y1), (r21_.2.1, (r21_.2.2.1, r21_.2.2.2))))))))
 (.t (r19_.1 == 2)
 (.c Yb (wu ([(0 : Int), (12 : Int), (-1 : Int)] : Y1) r19_.2.1 r19_.2.2.1 r19_.2.2.2) fun r22_ =>
 .l (r22_.1, (r17_.1, (r18_.1, ((0 : Int), (([] : Y1), (r22_.2.1, (r22_.2.2.1, r22_.2.2.2))))))))
 (.t (r19_.1 == 3)
 (.g (decide (length ([(1 : Int)] : Y1) * 8 ≤ 140737488355328)) <|
 .l ((wrap .i64 ((1 : Int) + r1_.1)), (r17_.1, (r18_.1, ((0 : Int), (([(1 : Int)] : Y1), (r19_.2.1, (r19_.2.2.1, r19_.2.2.2))))))))
 (.l ((wrap .i64 ((1 : Int) + r1_.1)), (r17_.1, (r18_.1, ((0 : Int), (([] : Y1), (r19_.2.1, (r19_.2.2.1, r19_.2.2.2))))))))))))
 (.t ((wrap .i64 ((1 : Int) + r1_.1)) == (5 : Int))
 (.c Yb (ww r5_ r1_.2.1 r1_.2.2.1 r1_.2.2.2) fun r23_ =>
 .c Yb (ww r3_ r23_.2.1 r23_.2.2.1 r23_.2.2.2) fun r24_ =>
 .c Yb (wu ([(0 : Int), (3 : Int), (10 : Int), (99 : Int), (100 : Int)] : Y1) r24_.2.1 r24_.2.2.1 r24_.2.2.2) fun r25_ =>
 .c Yb (ww (32 : Int) r25_.2.1 r25_.2.2.1 r25_.2.2.2) fun r26_ =>
 .t (r26_.1 == 0)
 (.c Yb (wu ([(-1 : Int), (7 : Int), (4611686018427387904 : Int)] : Y1) r26_.2.1 r26_.2.2.1 r26_.2.2.2) fun r27_ =>
 .l ((wrap .i64 ((1 : Int) + r1_.1)), (r27_.1, (r24_.1, (r25_.1, (([] : Y1), (r27_.2.1, (r27_.2.2.1, r27_.2.2.2))))))))
 (.t (r26_.1 == 1)
 (.c Yb (wu ([(-1 : Int), (1 : Int)] : Y1) r26_.2.1 r26_.2.2.1 r26_.2.2.2) fun r28_ =>
 .l ((wrap .i64 ((1 : Int) + r1_.1)), (r23_.1, (r24_.1, (r28_.1, (([] : Y1), (r28_.2.1, (r28_.2.2.1, r28_.2.2.2))))))))
 (.t (r26_.1 == 2)
 (.c Yb (wu ([(0 : Int), (12 : Int), (-1 : Int)] : Y1) r26_.2.1 r26_.2.2.1 r26_.2.2.2) fun r29_ =>
 .l (r29_.1, (r23_.1, (r24_.1, (r25_.1, (([] : Y1), (r29_.2.1, (r29_.2.2.1, r29_.2.2.2))))))))
 (.t (r26_.1 == 3)
 (.g (decide (length ([(1 : Int)] : Y1) * 8 ≤ 140737488355328)) <|
 .l ((wrap .i64 ((1 : Int) + r1_.1)), (r23_.1, (r24_.1, (r25_.1, (([(1 : Int)] : Y1), (r26_.2.1, (r26_.2.2.1, r26_.2.2.2))))))))
 (.l ((wrap .i64 ((1 : Int) + r1_.1)), (r23_.1, (r24_.1, (r25_.1, (([] : Y1), (r26_.2.1, (r26_.2.2.1, r26_.2.2.2))))))))))))
 (.t ((wrap .i64 ((1 : Int) + r1_.1)) == (6 : Int))
 (.c Yb (ww (20 : Int) r1_.2.1 r1_.2.2.1 r1_.2.2.2) fun r30_ =>
 .c Yag (wct ((length a5_ : Nat) : Int) r30_.2.1 r30_.2.2.1 r30_.2.2.2) fun r31_ =>
 .c Yb (ww (32 : Int) r31_.2.1 r31_.2.2.1 r31_.2.2.2) fun r32_ =>
 .t (r32_.1 == 0)
 (.c Yb (wu ([(-1 : Int), (7 : Int), (4611686018427387904 : Int)] : Y1) r32_.2.1 r32_.2.2.1 r32_.2.2.2) fun r33_ =>
 .l ((wrap .i64 ((1 : Int) + r1_.1)), (r33_.1, ((0 : Int), ((0 : Int), (r31_.1, (r33_.2.1, (r33_.2.2.1, r33_.2.2.2))))))))
 (.t (r32_.1 == 1)
 (.c Yb (wu ([(-1 : Int), (1 : Int)] : Y1) r32_.2.1 r32_.2.2.1 r32_.2.2.2) fun r34_ =>
 .l ((wrap .i64 ((1 : Int) + r1_.1)), (r30_.1, ((0 : Int), (r34_.1, (r31_.1, (r34_.2.1, (r34_.2.2.1, r34_.2.2.2))))))))
 (.t (r32_.1 == 2)
 (.c Yb (wu ([(0 : Int), (12 : Int), (-1 : Int)] : Y1) r32_.2.1 r32_.2.2.1 r32_.2.2.2) fun r35_ =>
 .l (r35_.1, (r30_.1, ((0 : Int), ((0 : Int), (r31_.1, (r35_.2.1, (r35_.2.2.1, r35_.2.2.2))))))))
 (.t (r32_.1 == 3)
 (.g (decide ((length r31_.1 + length ([(1 : Int)] : Y1)) * 8 ≤ 140737488355328)) <|
 .l ((wrap .i64 ((1 : Int) + r1_.1)), (r30_.1, ((0 : Int), ((0 : Int), ((r31_.1 ++ ([(1 : Int)] : Y1)), (r32_.2.1, (r32_.2.2.1, r32_.2.2.2))))))))
 (.l ((wrap .i64 ((1 : Int) + r1_.1)), (r30_.1, ((0 : Int), ((0 : Int), (r31_.1, (r32_.2.1, (r32_.2.2.1, r32_.2.2.2))))))))))))
 (.t ((wrap .i64 ((1 : Int) + r1_.1)) == (7 : Int))
 (.c Yag (wct ((length a4_ : Nat) : Int) r1_.2.1 r1_.2.2.1 r1_.2.2.2) fun r36_ =>
 .c Yb (ww (32 : Int) r36_.2.1 r36_.2.2.1 r36_.2.2.2) fun r37_ =>
 .t (r37_.1 == 0)
 (.c Yb (wu ([(-1 : Int), (7 : Int), (4611686018427387904 : Int)] : Y1) r37_.2.1 r37_.2.2.1 r37_.2.2.2) fun r38_ =>
 .l ((wrap .i64 ((1 : Int) + r1_.1)), (r38_.1, ((0 : Int), ((0 : Int), (r36_.1, (r38_.2.1, (r38_.2.2.1, r38_.2.2.2))))))))
 (.t (r37_.1 == 1)
 (.c Yb (wu ([(-1 : Int), (1 : Int)] : Y1) r37_.2.1 r37_.2.2.1 r37_.2.2.2) fun r39_ =>
 .l ((wrap .i64 ((1 : Int) + r1_.1)), ((0 : Int), ((0 : Int), (r39_.1, (r36_.1, (r39_.2.1, (r39_.2.2.1, r39_.2.2.2))))))))
 (.t (r37_.1 == 2)
 (.c Yb (wu ([(0 : Int), (12 : Int), (-1 : Int)] : Y1) r37_.2.1 r37_.2.2.1 r37_.2.2.2) fun r40_ =>
 .l (r40_.1, ((0 : Int), ((0 : Int), ((0 : Int), (r36_.1, (r40_.2.1, (r40_.2.2.1, r40_.2.2.2))))))))
 (.t (r37_.1 == 3)
 (.g (decide ((length r36_.1 + length ([(1 : Int)] : Y1)) * 8 ≤ 140737488355328)) <|
 .l ((wrap .i64 ((1 : Int) + r1_.1)), ((0 : Int), ((0 : Int), ((0 : Int), ((r36_.1 ++ ([(1 : Int)] : Y1)), (r37_.2.1, (r37_.2.2.1, r37_.2.2.2))))))))
 (.l ((wrap .i64 ((1 : Int) + r1_.1)), ((0 : Int), ((0 : Int), ((0 : Int), (r36_.1, (r37_.2.1, (r37_.2.2.1, r37_.2.2.2))))))))))))
 (.t ((wrap .i64 ((1 : Int) + r1_.1)) == (9 : Int))
 (.c Yb (ww r5_ r1_.2.1 r1_.2.2.1 r1_.2.2.2) fun r41_ =>
 .c Yb (ww (32 : Int) r41_.2.1 r41_.2.2.1 r41_.2.2.2) fun r42_ =>
 .t (r42_.1 == 0)
 (.c Yb (wu ([(-1 : Int), (7 : Int), (4611686018427387904 : Int)] : Y1) r42_.2.1 r42_.2.2.1 r42_.2.2.2) fun r43_ =>
 .l ((wrap .i64 ((1 : Int) + r1_.1)), (r43_.1, ((0 : Int), ((0 : Int), (([] : Y1), (r43_.2.1, (r43_.2.2.1, r43_.2.2.2))))))))
 (.t (r42_.1 == 1)
 (.c Yb (wu ([(-1 : Int), (1 : Int)] : Y1) r42_.2.1 r42_.2.2.1 r42_.2.2.2) fun r44_ =>
 .l ((wrap .i64 ((1 : Int) + r1_.1)), (r41_.1, ((0 : Int), (r44_.1, (([] : Y1), (r44_.2.1, (r44_.2.2.1, r44_.2.2.2))))))))
 (.t (r42_.1 == 2)
 (.c Yb (wu ([(0 : Int), (12 : Int), (-1 : Int)] : Y1) r42_.2.1 r42_.2.2.1 r42_.2.2.2) fun r45_ =>
 .l (r45_.1, (r41_.1, ((0 : Int), ((0 : Int), (([] : Y1), (r45_.2.1, (r45_.2.2.1, r45_.2.2.2))))))))
 (.t (r42_.1 == 3)
 (.g (decide (length ([(1 : Int)] : Y1) * 8 ≤ 140737488355328)) <|
 .l ((wrap .i64 ((1 : Int) + r1_.1)), (r41_.1, ((0 : Int), ((0 : Int), (([(1 : Int)] : Y1), (r42_.2.1, (r42_.2.2.1, r42_.2.2.2))))))))
 (.l ((wrap .i64 ((1 : Int) + r1_.1)), (r41_.1, ((0 : Int), ((0 : Int), (([] : Y1), (r42_.2.1, (r42_.2.2.1, r42_.2.2.2))))))))))))
 (.c Yb (ww (32 : Int) r1_.2.1 r1_.2.2.1 r1_.2.2.2) fun r46_ =>
 .t (r46_.1 == 0)
 (.c Yb (wu ([(-1 : Int), (7 : Int), (4611686018427387904 : Int)] : Y1) r46_.2.1 r46_.2.2.1 r46_.2.2.2) fun r47_ =>
 .l ((wrap .i64 ((1 : Int) + r1_.1)), (r47_.1, ((0 : Int), ((0 : Int), (([] : Y1), (r47_.2.1, (r47_.2.2.1, r47_.2.2.2))))))))
 (.t (r46_.1 == 1)
 (.c Yb (wu ([(-1 : Int), (1 : Int)] : Y1) r46_.2.1 r46_.2.2.1 r46_.2.2.2) fun r48_ =>
 .l ((wrap .i64 ((1 : Int) + r1_.1)), ((0 : Int), ((0 : Int), (r48_.1, (([] : Y1), (r48_.2.1, (r48_.2.2.1, r48_.2.2.2))))))))
 (.t (r46_.1 == 2)
 (.c Yb (wu ([(0 : Int), (12 : Int), (-1 : Int)] : Y1) r46_.2.1 r46_.2.2.1 r46_.2.2.2) fun r49_ =>
 .l (r49_.1, ((0 : Int), ((0 : Int), ((0 : Int), (([] : Y1), (r49_.2.1, (r49_.2.2.1, r49_.2.2.2))))))))
 (.t (r46_.1 == 3)
 (.g (decide (length ([(1 : Int)] : Y1) * 8 ≤ 140737488355328)) <|
 .l ((wrap .i64 ((1 : Int) + r1_.1)), ((0 : Int), ((0 : Int), ((0 : Int), (([(1 : Int)] : Y1), (r46_.2.1, (r46_.2.2.1, r46_.2.2.2))))))))
 (.l ((wrap .i64 ((1 : Int) + r1_.1)), ((0 : Int), ((0 : Int), ((0 : Int), (([] : Y1), (r46_.2.1, (r46_.2.2.1, r46_.2.2.2)))))))))))))))))))
 (.t ((wrap .i64 ((1 : Int) + r1_.1)) == (2 : Int))
 (.t ((wrap .i64 ((1 : Int) + r1_.1)) == (2 : Int))
 (.c Yb (ww r3_ r1_.2.1 r1_.2.2.1 r1_.2.2.2) fun r50_ =>
 .c Yb (ww (32 : Int) r50_.2.1 r50_.2.2.1 r50_.2.2.2) fun r51_ =>
 .t (r51_.1 == 0)
 (.c Yb (wu ([(-1 : Int), (7 : Int), (4611686018427387904 : Int)] : Y1) r51_.2.1 r51_.2.2.1 r51_.2.2.2) fun r52_ =>
 .l ((wrap .i64 ((1 : Int) + r1_.1)), (r52_.1, ((0 : Int), ((0 : Int), (([] : Y1), (r52_.2.1, (r52_.2.2.1, r52_.2.2.2))))))))
 (.t (r51_.1 == 1)
 (.c Yb (wu ([(-1 : Int), (1 : Int)] : Y1) r51_.2.1 r51_.2.2.1 r51_.2.2.2) fun r53_ =>
 .l ((wrap .i64 ((1 : Int) + r1_.1)), (r50_.1, ((0 : Int), (r53_.1, (([] : Y1), (r53_.2.1, (r53_.2.2.1, r53_.2.2.2))))))))
 (.t (r51_.1 == 2)
 (.c Yb (wu ([(0 : Int), (12 : Int), (-1 : Int)] : Y1) r51_.2.1 r51_.2.2.1 r51_.2.2.2) fun r54_ =>
 .l (r54_.1, (r50_.1, ((0 : Int), ((0 : Int), (([] : Y1), (r54_.2.1, (r54_.2.2.1, r54_.2.2.2))))))))
 (.t (r51_.1 == 3)
 (.g (decide (length ([(1 : Int)] : Y1) * 8 ≤ 140737488355328)) <|
 .l ((wrap .i64 ((1 : Int) + r1_.1)), (r50_.1, ((0 : Int), ((0 : Int), (([(1 : Int)] : Y1), (r51_.2.1, (r51_.2.2.1, r51_.2.2.2))))))))
 (.l ((wrap .i64 ((1 : Int) + r1_.1)), (r50_.1, ((0 : Int), ((0 : Int), (([] : Y1), (r51_.2.1, (r51_.2.2.1, r51_.2.2.2))))))))))))
 (.t ((wrap .i64 ((1 : Int) + r1_.1)) == (3 : Int))
 (.c Yb (ww r3_ r1_.2.1 r1_.2.2.1 r1_.2.2.2) fun r55_ =>
 .c Yb (ww r3_ r55_.2.1 r55_.2.2.1 r55_.2.2.2) fun r56_ =>
 .c Yb (ww (32 : Int) r56_.2.1 r56_.2.2.1 r56_.2.2.2) fun r57_ =>
 .t (r57_.1 == 0)
 (.c Yb (wu ([(-1 : Int), (7 : Int), (4611686018427387904 : Int)] : Y1) r57_.2.1 r57_.2.2.1 r57_.2.2.2) fun r58_ =>
 .l ((wrap .i64 ((1 : Int) + r1_.1)), (r58_.1, (r56_.1, ((0 : Int), (([] : Y1), (r58_.2.1, (r58_.2.2.1, r58_.2.2.2))))))))
 (.t (r57_.1 == 1)
 (.c Yb (wu ([(-1 : Int), (1 : Int)] : Y1) r57_.2.1 r57_.2.2.1 r57_.2.2.2) fun r59_ =>
 .l ((wrap .i64 ((1 : Int) + r1_.1)), (r55_.1, (r56_.1, (r59_.1, (([] : Y1), (r59_.2.1, (r59_.2.2.1, r59_.2.2.2))))))))
 (.t (r57_.1 == 2)
 (.c Yb (wu ([(0 : Int), (12 : Int), (-1 : Int)] : Y1) r57_.2.1 r57_.2.2.1 r57_.2.2.2) fun r60_ =>
 .l (r60_.1, (r55_.1, (r56_.1, ((0 : Int), (([] : Y1), (r60_.2.1, (r60_.2.2.1, r60_.2.2.2))))))))
 (.t (r57_.1 == 3)
 (.g (decide (length ([(1 : Int)] : Y1) * 8 ≤ 140737488355328)) <|
 .l ((wrap .i64 ((1 : Int) + r1_.1)), (r55_.1, (r56_.1, ((0 : Int), (([(1 : Int)] : Y1), (r57_.2.1, (r57_.2.2.1, r57_.2.2.2))))))))
 (.l ((wrap .i64 ((1 : Int) + r1_.1)), (r55_.1, (r56_.1, ((0 : Int), (([] : Y1), (r57_.2.1, (r57_.2.2.1, r57_.2.2.2))))))))))))
 (.t ((wrap .i64 ((1 : Int) + r1_.1)) == (4 : Int))
 (.c Yb (ww r3_ r1_.2.1 r1_.2.2.1 r1_.2.2.2) fun r61_ =>
 .c Yb (wu ([(0 : Int), (3 : Int), (10 : Int), (99 : Int), (100 : Int)] : Y1) r61_.2.1 r61_.2.2.1 r61_.2.2.2) fun r62_ =>
 .c Yb (ww (32 : Int) r62_.2.1 r62_.2.2.1 r62_.2.2.2) fun r63_ =>
 .t (r63_.1 == 0)
 (.c Yb (wu ([(-1 : Int), (7 : Int), (4611686018427387904 : Int)] : Y1) r63_.2.1 r63_.2.2.1 r63_.2.2.2) fun r64_ =>
 .l ((wrap .i64 ((1 : Int) + r1_.1)), (r64_.1, (r62_.1, ((0 : Int), (([] : Y1), (r64_.2.1, (r64_.2.2.1, r64_.2.2.2))))))))
 (.t (r63_.1 == 1)
 (.c Yb (wu ([(-1 : Int), (1 : Int)] : Y1) r63_.2.1 r63_.2.2.1 r63_.2.2.2) fun r65_ =>
 .l ((wrap .i64 ((1 : Int) + r1_.1)), (r61_.1, (r62_.1, (r65_.1, (([] : Y1), (r65_.2.1, (r65_.2.2.1, r65_.2.2.2))))))))
 (.t (r63_.1 == 2)
 (.c Yb (wu ([(0 : Int), (12 : Int), (-1 : Int)] : Y1) r63_.2.1 r63_.2.2.1 r63_.2.2.2) fun r66_ =>
 .l (r66_.1, (r61_.1, (r62_.1, ((0 : Int), (([] : Y1), (r66_.2.1, (r66_.2.2.1, r66_.2.2.2))))))))
 (.t (r63_.1 == 3)
 (.g (decide (length ([(1 : Int)] : Y1) * 8 ≤ 140737488355328)) <|
 .l ((wrap .i64 ((1 : Int) + r1_.1)), (r61_.1, (r62_.1, ((0 : Int), (([(1 : Int)] : Y1), (r63_.2.1, (r63_.2.2.1, r63_.2.2.2))))))))
 (.l ((wrap .i64 ((1 : Int) + r1_.1)), (r61_.1, (r62_.1, ((0 : Int), (([] : Y1), (r63_.2.1, (r63_.2.2.1, r63_.2.2.2))))))))))))
 (.t ((wrap .i64 ((1 : Int) + r1_.1)) == (5 : Int))
 (.c Yb (ww r5_ r1_.2.1 r1_.2.2.1 r1_.2.2.2) fun r67_ =>
 .c Yb (ww r3_ r67_.2.1 r67_.2.2.1 r67_.2.2.2) fun r68_ =>
 .c Yb (wu ([(0 : Int), (3 : Int), (10 : Int), (99 : Int), (100 : Int)] : Y1) r68_.2.1 r68_.2.2.1 r68_.2.2.2) fun r69_ =>
 .c Yb (ww (32 : Int) r69_.2.1 r69_.2.2.1 r69_.2.2.2) fun r70_ =>
 .t (r70_.1 == 0)
 (.c Yb (wu ([(-1 : Int), (7 : Int), (4611686018427387904 : Int)] : Y1) r70_.2.1 r70_.2.2.1 r70_.2.2.2) fun r71_ =>
 .l ((wrap .i64 ((1 : Int) + r1_.1)), (r71_.1, (r68_.1, (r69_.1, (([] : Y1), (r71_.2.1, (r71_.2.2.1, r71_.2.2.2))))))))
 (.t (r70_.1 == 1)
 (.c Yb (wu ([(-1 : Int), (1 : Int)] : Y1) r70_.2.1 r70_.2.2.1 r70_.2.2.2) fun r72_ =>
 .l ((wrap .i64 ((1 : Int) + r1_.1)), (r67_.1, (r68_.1, (r72_.1, (([] : Y1), (r72_.2.1, (r72_.2.2.1, r72_.2.2.2))))))))
 (.t (r70_.1 == 2)
 (.c Yb (wu ([(0 : Int), (12 : Int), (-1 : Int)] : Y1) r70_.2.1 r70_.2.2.1 r70_.2.2.2) fun r73_ =>
 .l (r73_.1, (r67_.1, (r68_.1, (r69_.1, (([] : Y1), (r73_.2.1, (r73_.2.2.1, r73_.2.2.2))))))))
 (.t (r70_.1 == 3)
 (.g (decide (length ([(1 : Int)] : Y1) * 8 ≤ 140737488355328)) <|
 .l ((wrap .i64 ((1 : Int) + r1_.1)), (r67_.1, (r68_.1, (r69_.1, (([(1 : Int)] : Y1), (r70_.2.1, (r70_.2.2.1, r70_.2.2.2))))))))
 (.l ((wrap .i64 ((1 : Int) + r1_.1)), (r67_.1, (r68_.1, (r69_.1, (([] : Y1), (r70_.2.1, (r70_.2.2.1, r70_.2.2.2))))))))))))
 (.t ((wrap .i64 ((1 : Int) + r1_.1)) == (6 : Int))
 (.c Yb (ww (20 : Int) r1_.2.1 r1_.2.2.1 r1_.2.2.2) fun r74_ =>
 .c Yag (wct ((length a5_ : Nat) : Int) r74_.2.1 r74_.2.2.1 r74_.2.2.2) fun r75_ =>
 .c Yb (ww (32 : Int) r75_.2.1 r75_.2.2.1 r75_.2.2.2) fun r76_ =>
 .t (r76_.1 == 0)
 (.c Yb (wu ([(-1 : Int), (7 : Int), (4611686018427387904 : Int)] : Y1) r76_.2.1 r76_.2.2.1 r76_.2.2.2) fun r77_ =>
 .l ((wrap .i64 ((1 : Int) + r1_.1)), (r77_.1, ((0 : Int), ((0 : Int), (r75_.1, (r77_.2.1, (r77_.2.2.1, r77_.2.2.2))))))))
 (.t (r76_.1 == 1)
 (.c Yb (wu ([(-1 : Int), (1 : Int)] : Y1) r76_.2.1 r76_.2.2.1 r76_.2.2.2) fun r78_ =>
 .l ((wrap .i64 ((1 : Int) + r1_.1)), (r74_.1, ((0 : Int), (r78_.1, (r75_.1, (r78_.2.1, (r78_.2.2.1, r78_.2.2.2))))))))
 (.t (r76_.1 == 2)
 (.c Yb (wu ([(0 : Int), (12 : Int), (-1 : Int)] : Y1) r76_.2.1 r76_.2.2.1 r76_.2.2.2) fun r79_ =>
 .l (r79_.1, (r74_.1, ((0 : Int), ((0 : Int), (r75_.1, (r79_.2.1, (r79_.2.2.1, r79_.2.2.2))))))))
 (.t (r76_.1 == 3)
 (.g (decide ((length r75_.1 + length ([(1 : Int)] : Y1)) * 8 ≤ 140737488355328)) <|
 .l ((wrap .i64 ((1 : Int) + r1_.1)), (r74_.1, ((0 : Int), ((0 : Int), ((r75_.1 ++ ([(1 : Int)] : Y1)), (r76_.2.1, (r76_.2.2.1, r76_.2.2.2))))))))
 (.l ((wrap .i64 ((1 : Int) + r1_.1)), (r74_.1, ((0 : Int), ((0 : Int), (r75_.1, (r76_.2.1, (r76_.2.2.1, r76_.2.2.2))))))))))))
 (.t ((wrap .i64 ((1 : Int) + r1_.1)) == (7 : Int))
 (.c Yag (wct ((length a4_ : Nat) : Int) r1_.2.1 r1_.2.2.1 r1_.2.2.2) fun r80_ =>
 .c Yb (ww (32 : Int) r80_.2.1 r80_.2.2.1 r80_.2.2.2) fun r81_ =>
 .t (r81_.1 == 0)
 (.c Yb (wu ([(-1 : Int), (7 : Int), (4611686018427387904 : Int)] : Y1) r81_.2.1 r81_.2.2.1 r81_.2.2.2) fun r82_ =>
 .l ((wrap .i64 ((1 : Int) + r1_.1)), (r82_.1, ((0 : Int), ((0 : Int), (r80_.1, (r82_.2.1, (r82_.2.2.1, r82_.2.2.2))))))))
 (.t (r81_.1 == 1)
 (.c Yb (wu ([(-1 : Int), (1 : Int)] : Y1) r81_.2.1 r81_.2.2.1 r81_.2.2.2) fun r83_ =>
 .l ((wrap .i64 ((1 : Int) + r1_.1)), ((0 : Int), ((0 : Int), (r83_.1, (r80_.1, (r83_.2.1, (r83_.2.2.1, r83_.2.2.2))))))))
 (.t (r81_.1 == 2)
 (.c Yb (wu ([(0 : Int), (12 : Int), (-1 : Int)] : Y1) r81_.2.1 r81_.2.2.1 r81_.2.2.2) fun r84_ =>
 .l (r84_.1, ((0 : Int), ((0 : Int), ((0 : Int), (r80_.1, (r84_.2.1, (r84_.2.2.1, r84_.2.2.2))))))))
 (.t (r81_.1 == 3)
 (.g (decide ((length r80_.1 + length ([(1 : Int)] : Y1)) * 8 ≤ 140737488355328)) <|
 .l ((wrap .i64 ((1 : Int) + r1_.1)), ((0 : Int), ((0 : Int), ((0 : Int), ((r80_.1 ++ ([(1 : Int)] : Y1)), (r81_.2.1, (r81_.2.2.1, r81_.2.2.2))))))))
 (.l ((wrap .i64 ((1 : Int) + r1_.1)), ((0 : Int), ((0 : Int), ((0 : Int), (r80_.1, (r81_.2.1, (r81_.2.2.1, r81_.2.2.2))))))))))))
 (.t ((wrap .i64 ((1 : Int) + r1_.1)) == (9 : Int))
 (.c Yb (ww r5_ r1_.2.1 r1_.2.2.1 r1_.2.2.2) fun r85_ =>
 .c Yb (ww (32 : Int) r85_.2.1 r85_.2.2.1 r85_.2.2.2) fun r86_ =>
 .t (r86_.1 == 0)
 (.c Yb (wu ([(-1 : Int), (7 : Int), (4611686018427387904 : Int)] : Y1) r86_.2.1 r86_.2.2.1 r86_.2.2.2) fun r87_ =>
 .l ((wrap .i64 ((1 : Int) + r1_.1)), (r87_.1, ((0 : Int), ((0 : Int), (([] : Y1), (r87_.2.1, (r87_.2.2.1, r87_.2.2.2))))))))
 (.t (r86_.1 == 1)
 (.c Yb (wu ([(-1 : Int), (1 : Int)] : Y1) r86_.2.1 r86_.2.2.1 r86_.2.2.2) fun r88_ =>
 .l ((wrap .i64 ((1 : Int) + r1_.1)), (r85_.1, ((0 : Int), (r88_.1, (([] : Y1), (r88_.2.1, (r88_.2.2.1, r88_.2.2.2))))))))
 (.t (r86_.1 == 2)
 (.c Yb (wu ([(0 : Int), (12 : Int), (-1 : Int)] : Y1) r86_.2.1 r86_.2.2.1 r86_.2.2.2) fun r89_ =>
 .l (r89_.1, (r85_.1, ((0 : Int), ((0 : Int), (([] : Y1), (r89_.2.1, (r89_.2.2.1, r89_.2.2.2))))))))
 (.t (r86_.1 == 3)
 (.g (decide (length ([(1 : Int)] : Y1) * 8 ≤ 140737488355328)) <|
 .l ((wrap .i64 ((1 : Int) + r1_.1)), (r85_.1, ((0 : Int), ((0 : Int), (([(1 : Int)] : Y1), (r86_.2.1, (r86_.2.2.1, r86_.2.2.2))))))))
 (.l ((wrap .i64 ((1 : Int) + r1_.1)), (r85_.1, ((0 : Int), ((0 : Int), (([] : Y1), (r86_.2.1, (r86_.2.2.1, r86_.2.2.2))))))))))))
 (.c Yb (ww (32 : Int) r1_.2.1 r1_.2.2.1 r1_.2.2.2) fun r90_ =>
 .t (r90_.1 == 0)
 (.c Yb (wu ([(-1 : Int), (7 : Int), (4611686018427387904 : Int)] : Y1) r90_.2.1 r90_.2.2.1 r90_.2.2.2) fun r91_ =>
 .l ((wrap .i64 ((1 : Int) + r1_.1)), (r91_.1, ((0 : Int), ((0 : Int), (([] : Y1), (r91_.2.1, (r91_.2.2.1, r91_.2.2.2))))))))
 (.t (r90_.1 == 1)
 (.c Yb (wu ([(-1 : Int), (1 : Int)] : Y1) r90_.2.1 r90_.2.2.1 r90_.2.2.2) fun r92_ =>
 .l ((wrap .i64 ((1 : Int) + r1_.1)), ((0 : Int), ((0 : Int), (r92_.1, (([] : Y1), (r92_.2.1, (r92_.2.2.1, r92_.2.2.2))))))))
 (.t (r90_.1 == 2)
 (.c Yb (wu ([(0 : Int), (12 : Int), (-1 : Int)] : Y1) r90_.2.1 r90_.2.2.1 r90_.2.2.2) fun r93_ =>
 .l (r93_.1, ((0 : Int), ((0 : Int), ((0 : Int), (([] : Y1), (r93_.2.1, (r93_.2.2.1, r93_.2.2.2))))))))
 (.t (r90_.1 == 3)
 (.g (decide (length ([(1 : Int)] : Y1) * 8 ≤ 140737488355328)) <|
 .l ((wrap .i64 ((1 : Int) + r1_.1)), ((0 : Int), ((0 : Int), ((0 : Int), (([(1 : Int)] : Y1), (r90_.2.1, (r90_.2.2.1, r90_.2.2.2))))))))
 (.l ((wrap .i64 ((1 : Int) + r1_.1)), ((0 : Int), ((0 : Int), ((0 : Int), (([] : Y1), (r90_.2.1, (r90_.2.2.1, r90_.2.2.2)))))))))))))))))))
 (.t ((wrap .i64 ((1 : Int) + r1_.1)) == (8 : Int))
 (.c Yb (ww r3_ r1_.2.1 r1_.2.2.1 r1_.2.2.2) fun r94_ =>
 .c Yb (ww (32 : Int) r94_.2.1 r94_.2.2.1 r94_.2.2.2) fun r95_ =>
 .t (r95_.1 == 0)
 (.c Yb (wu ([(-1 : Int), (7 : Int), (4611686018427387904 : Int)] : Y1) r95_.2.1 r95_.2.2.1 r95_.2.2.2) fun r96_ =>
 .l ((wrap .i64 ((1 : Int) + r1_.1)), (r96_.1, ((0 : Int), ((0 : Int), (([] : Y1), (r96_.2.1, (r96_.2.2.1, r96_.2.2.2))))))))
 (.t (r95_.1 == 1)
 (.c Yb (wu ([(-1 : Int), (1 : Int)] : Y1) r95_.2.1 r95_.2.2.1 r95_.2.2.2) fun r97_ =>
 .l ((wrap .i64 ((1 : Int) + r1_.1)), (r94_.1, ((0 : Int), (r97_.1, (([] : Y1), (r97_.2.1, (r97_.2.2.1, r97_.2.2.2))))))))
 (.t (r95_.1 == 2)
 (.c Yb (wu ([(0 : Int), (12 : Int), (-1 : Int)] : Y1) r95_.2.1 r95_.2.2.1 r95_.2.2.2) fun r98_ =>
 .l (r98_.1, (r94_.1, ((0 : Int), ((0 : Int), (([] : Y1), (r98_.2.1, (r98_.2.2.1, r98_.2.2.2))))))))
 (.t (r95_.1 == 3)
 (.g (decide (length ([(1 : Int)] : Y1) * 8 ≤ 140737488355328)) <|
 .l ((wrap .i64 ((1 : Int) + r1_.1)), (r94_.1, ((0 : Int), ((0 : Int), (([(1 : Int)] : Y1), (r95_.2.1, (r95_.2.2.1, r95_.2.2.2))))))))
 (.l ((wrap .i64 ((1 : Int) + r1_.1)), (r94_.1, ((0 : Int), ((0 : Int), (([] : Y1), (r95_.2.1, (r95_.2.2.1, r95_.2.2.2))))))))))))
 (.t ((wrap .i64 ((1 : Int) + r1_.1)) == (3 : Int))
 (.c Yb (ww r3_ r1_.2.1 r1_.2.2.1 r1_.2.2.2) fun r99_ =>
 .c Yb (ww r3_ r99_.2.1 r99_.2.2.1 r99_.2.2.2) fun r100_ =>
 .c Yb (ww (32 : Int) r100_.2.1 r100_.2.2.1 r100_.2.2.2) fun r101_ =>
 .t (r101_.1 == 0)
 (.c Yb (wu ([(-1 : Int), (7 : Int), (4611686018427387904 : Int)] : Y1) r101_.2.1 r101_.2.2.1 r101_.2.2.2) fun r102_ =>
 .l ((wrap .i64 ((1 : Int) + r1_.1)), (r102_.1, (r100_.1, ((0 : Int), (([] : Y1), (r102_.2.1, (r102_.2.2.1, r102_.2.2.2))))))))
 (.t (r101_.1 == 1)
 (.c Yb (wu ([(-1 : Int), (1 : Int)] : Y1) r101_.2.1 r101_.2.2.1 r101_.2.2.2) fun r103_ =>
 .l ((wrap .i64 ((1 : Int) + r1_.1)), (r99_.1, (r100_.1, (r103_.1, (([] : Y1), (r103_.2.1, (r103_.2.2.1, r103_.2.2.2))))))))
 (.t (r101_.1 == 2)
 (.c Yb (wu ([(0 : Int), (12 : Int), (-1 : Int)] : Y1) r101_.2.1 r101_.2.2.1 r101_.2.2.2) fun r104_ =>
 .l (r104_.1, (r99_.1, (r100_.1, ((0 : Int), (([] : Y1), (r104_.2.1, (r104_.2.2.1, r104_.2.2.2))))))))
 (.t (r101_.1 == 3)
 (.g (decide (length ([(1 : Int)] : Y1) * 8 ≤ 140737488355328)) <|
 .l ((wrap .i64 ((1 : Int) + r1_.1)), (r99_.1, (r100_.1, ((0 : Int), (([(1 : Int)] : Y1), (r101_.2.1, (r101_.2.2.1, r101_.2.2.2))))))))
 (.l ((wrap .i64 ((1 : Int) + r1_.1)), (r99_.1, (r100_.1, ((0 : Int), (([] : Y1), (r101_.2.1, (r101_.2.2.1, r101_.2.2.2))))))))))))
 (.t ((wrap .i64 ((1 : Int) + r1_.1)) == (4 : Int))
 (.c Yb (ww r3_ r1_.2.1 r1_.2.2.1 r1_.2.2.2) fun r105_ =>
 .c Yb (wu ([(0 : Int), (3 : Int), (10 : Int), (99 : Int), (100 : Int)] : Y1) r105_.2.1 r105_.2.2.1 r105_.2.2.2) fun r106_ =>
 .c Yb (ww (32 : Int) r106_.2.1 r106_.2.2.1 r106_.2.2.2) fun r107_ =>
 .t (r107_.1 == 0)
 (.c Yb (wu ([(-1 : Int), (7 : Int), (4611686018427387904 : Int)] : Y1) r107_.2.1 r107_.2.2.1 r107_.2.2.2) fun r108_ =>
 .l ((wrap .i64 ((1 : Int) + r1_.1)), (r108_.1, (r106_.1, ((0 : Int), (([] : Y1), (r108_.2.1, (r108_.2.2.1, r108_.2.2.2))))))))
 (.t (r107_.1 == 1)
 (.c Yb (wu ([(-1 : Int), (1 : Int)] : Y1) r107_.2.1 r107_.2.2.1 r107_.2.2.2) fun r109_ =>
 .l ((wrap .i64 ((1 : Int) + r1_.1)), (r105_.1, (r106_.1, (r109_.1, (([] : Y1), (r109_.2.1, (r109_.2.2.1, r109_.2.2.2))))))))
 (.t (r107_.1 == 2)
 (.c Yb (wu ([(0 : Int), (12 : Int), (-1 : Int)] : Y1) r107_.2.1 r107_.2.2.1 r107_.2.2.2) fun r110_ =>
 .l (r110_.1, (r105_.1, (r106_.1, ((0 : Int), (([] : Y1), (r110_.2.1, (r110_.2.2.1, r110_.2.2.2))))))))
 (.t (r107_.1 == 3)
 (.g (decide (length ([(1 : Int)] : Y1) * 8 ≤ 140737488355328)) <|
 .l ((wrap .i64 ((1 : Int) + r1_.1)), (r105_.1, (r106_.1, ((0 : Int), (([(1 : Int)] : Y1), (r107_.2.1, (r107_.2.2.1, r107_.2.2.2))))))))
 (.l ((wrap .i64 ((1 : Int) + r1_.1)), (r105_.1, (r106_.1, ((0 : Int), (([] : Y1), (r107_.2.1, (r107_.2.2.1, r107_.2.2.2))))))))))))
 (.t ((wrap .i64 ((1 : Int) + r1_.1)) == (5 : Int))
 (.c Yb (ww r5_ r1_.2.1 r1_.2.2.1 r1_.2.2.2) fun r111_ =>
 .c Yb (ww r3_ r111_.2.1 r111_.2.2.1 r111_.2.2.2) fun r112_ =>
 .c Yb (wu ([(0 : Int), (3 : Int), (10 : Int), (99 : Int), (100 : Int)] : Y1) r112_.2.1 r112_.2.2.1 r112_.2.2.2) fun r113_ =>
 .c Yb (ww (32 : Int) r113_.2.1 r113_.2.2.1 r113_.2.2.2) fun r114_ =>
 .t (r114_.1 == 0)
 (.c Yb (wu ([(-1 : Int), (7 : Int), (4611686018427387904 : Int)] : Y1) r114_.2.1 r114_.2.2.1 r114_.2.2.2) fun r115_ =>
 .l ((wrap .i64 ((1 : Int) + r1_.1)), (r115_.1, (r112_.1, (r113_.1, (([] : Y1), (r115_.2.1, (r115_.2.2.1, r115_.2.2.2))))))))
 (.t (r114_.1 == 1)
 (.c Yb (wu ([(-1 : Int), (1 : Int)] : Y1) r114_.2.1 r114_.2.2.1 r114_.2.2.2) fun r116_ =>
 .l ((wrap .i64 ((1 : Int) + r1_.1)), (r111_.1, (r112_.1, (r116_.1, (([] : Y1), (r116_.2.1, (r116_.2.2.1, r116_.2.2.2))))))))
 (.t (r114_.1 == 2)
 (.c Yb (wu ([(0 : Int), (12 : Int), (-1 : Int)] : Y1) r114_.2.1 r114_.2.2.1 r114_.2.2.2) fun r117_ =>
 .l (r117_.1, (r111_.1, (r112_.1, (r113_.1, (([] : Y1), (r117_.2.1, (r117_.2.2.1, r117_.2.2.2))))))))
 (.t (r114_.1 == 3)
 (.g (decide (length ([(1 : Int)] : Y1) * 8 ≤ 140737488355328)) <|
 .l ((wrap .i64 ((1 : Int) + r1_.1)), (r111_.1, (r112_.1, (r113_.1, (([(1 : Int)] : Y1), (r114_.2.1, (r114_.2.2.1, r114_.2.2.2))))))))
 (.l ((wrap .i64 ((1 : Int) + r1_.1)), (r111_.1, (r112_.1, (r113_.1, (([] : Y1), (r114_.2.1, (r114_.2.2.1, r114_.2.2.2))))))))))))
 (.t ((wrap .i64 ((1 : Int) + r1_.1)) == (6 : Int))
 (.c Yb (ww (20 : Int) r1_.2.1 r1_.2.2.1 r1_.2.2.2) fun r118_ =>
 .c Yag (wct ((length a5_ : Nat) : Int) r118_.2.1 r118_.2.2.1 r118_.2.2.2) fun r119_ =>
 .c Yb (ww (32 : Int) r119_.2.1 r119_.2.2.1 r119_.2.2.2) fun r120_ =>
 .t (r120_.1 == 0)
 (.c Yb (wu ([(-1 : Int), (7 : Int), (4611686018427387904 : Int)] : Y1) r120_.2.1 r120_.2.2.1 r120_.2.2.2) fun r121_ =>
 .l ((wrap .i64 ((1 : Int) + r1_.1)), (r121_.1, ((0 : Int), ((0 : Int), (r119_.1, (r121_.2.1, (r121_.2.2.1, r121_.2.2.2))))))))
 (.t (r120_.1 == 1)
 (.c Yb (wu ([(-1 : Int), (1 : Int)] : Y1) r120_.2.1 r120_.2.2.1 r120_.2.2.2) fun r122_ =>
 .l ((wrap .i64 ((1 : Int) + r1_.1)), (r118_.1, ((0 : Int), (r122_.1, (r119_.1, (r122_.2.1, (r122_.2.2.1, r122_.2.2.2))))))))
 (.t (r120_.1 == 2)
 (.c Yb (wu ([(0 : Int), (12 : Int), (-1 : Int)] : Y1) r120_.2.1 r120_.2.2.1 r120_.2.2.2) fun r123_ =>
 .l (r123_.1, (r118_.1, ((0 : Int), ((0 : Int), (r119_.1, (r123_.2.1, (r123_.2.2.1, r123_.2.2.2))))))))
 (.t (r120_.1 == 3)
 (.g (decide ((length r119_.1 + length ([(1 : Int)] : Y1)) * 8 ≤ 140737488355328)) <|
 .l ((wrap .i64 ((1 : Int) + r1_.1)), (r118_.1, ((0 : Int), ((0 : Int), ((r119_.1 ++ ([(1 : Int)] : Y1)), (r120_.2.1, (r120_.2.2.1, r120_.2.2.2))))))))
 (.l ((wrap .i64 ((1 : Int) + r1_.1)), (r118_.1, ((0 : Int), ((0 : Int), (r119_.1, (r120_.2.1, (r120_.2.2.1, r120_.2.2.2))))))))))))
 (.t ((wrap .i64 ((1 : Int) + r1_.1)) == (7 : Int))
 (.c Yag (wct ((length a4_ : Nat) : Int) r1_.2.1 r1_.2.2.1 r1_.2.2.2) fun r124_ =>
 .c Yb (ww (32 : Int) r124_.2.1 r124_.2.2.1 r124_.2.2.2) fun r125_ =>
 .t (r125_.1 == 0)
 (.c Yb (wu ([(-1 : Int), (7 : Int), (4611686018427387904 : Int)] : Y1) r125_.2.1 r125_.2.2.1 r125_.2.2.2) fun r126_ =>
 .l ((wrap .i64 ((1 : Int) + r1_.1)), (r126_.1, ((0 : Int), ((0 : Int), (r124_.1, (r126_.2.1, (r126_.2.2.1, r126_.2.2.2))))))))
 (.t (r125_.1 == 1)
 (.c Yb (wu ([(-1 : Int), (1 : Int)] : Y1) r125_.2.1 r125_.2.2.1 r125_.2.2.2) fun r127_ =>
 .l ((wrap .i64 ((1 : Int) + r1_.1)), ((0 : Int), ((0 : Int), (r127_.1, (r124_.1, (r127_.2.1, (r127_.2.2.1, r127_.2.2.2))))))))
 (.t (r125_.1 == 2)
 (.c Yb (wu ([(0 : Int), (12 : Int), (-1 : Int)] : Y1) r125_.2.1 r125_.2.2.1 r125_.2.2.2) fun r128_ =>
 .l (r128_.1, ((0 : Int), ((0 : Int), ((0 : Int), (r124_.1, (r128_.2.1, (r128_.2.2.1, r128_.2.2.2))))))))
 (.t (r125_.1 == 3)
 (.g (decide ((length r124_.1 + length ([(1 : Int)] : Y1)) * 8 ≤ 140737488355328)) <|
 .l ((wrap .i64 ((1 : Int) + r1_.1)), ((0 : Int), ((0 : Int), ((0 : Int), ((r124_.1 ++ ([(1 : Int)] : Y1)), (r125_.2.1, (r125_.2.2.1, r125_.2.2.2))))))))
 (.l ((wrap .i64 ((1 : Int) + r1_.1)), ((0 : Int), ((0 : Int), ((0 : Int), (r124_.1, (r125_.2.1, (r125_.2.2.1, r125_.2.2.2))))))))))))
 (.t ((wrap .i64 ((1 : Int) + r1_.1)) == (9 : Int))
 (.c Yb (ww r5_ r1_.2.1 r1_.2.2.1 r1_.2.2.2) fun r129_ =>
 .c Yb (ww (32 : Int) r129_.2.1 r129_.2.2.1 r129_.2.2.2) fun r130_ =>
 .t (r130_.1 == 0)
 (.c Yb (wu ([(-1 : Int), (7 : Int), (4611686018427387904 : Int)] : Y1) r130_.2.1 r130_.2.2.1 r130_.2.2.2) fun r131_ =>
 .l ((wrap .i64 ((1 : Int) + r1_.1)), (r131_.1, ((0 : Int), ((0 : Int), (([] : Y1), (r131_.2.1, (r131_.2.2.1, r131_.2.2.2))))))))
 (.t (r130_.1 == 1)
 (.c Yb (wu ([(-1 : Int), (1 : Int)] : Y1) r130_.2.1 r130_.2.2.1 r130_.2.2.2) fun r132_ =>
 .l ((wrap .i64 ((1 : Int) + r1_.1)), (r129_.1, ((0 : Int), (r132_.1, (([] : Y1), (r132_.2.1, (r132_.2.2.1, r132_.2.2.2))))))))
 (.t (r130_.1 == 2)
 (.c Yb (wu ([(0 : Int), (12 : Int), (-1 : Int)] : Y1) r130_.2.1 r130_.2.2.1 r130_.2.2.2) fun r133_ =>
 .l (r133_.1, (r129_.1, ((0 : Int), ((0 : Int), (([] : Y1), (r133_.2.1, (r133_.2.2.1, r133_.2.2.2))))))))
 (.t (r130_.1 == 3)
 (.g (decide (length ([(1 : Int)] : Y1) * 8 ≤ 140737488355328)) <|
 .l ((wrap .i64 ((1 : Int) + r1_.1)), (r129_.1, ((0 : Int), ((0 : Int), (([(1 : Int)] : Y1), (r130_.2.1, (r130_.2.2.1, r130_.2.2.2))))))))
 (.l ((wrap .i64 ((1 : Int) + r1_.1)), (r129_.1, ((0 : Int), ((0 : Int), (([] : Y1), (r130_.2.1, (r130_.2.2.1, r130_.2.2.2))))))))))))
 (.c Yb (ww (32 : Int) r1_.2.1 r1_.2.2.1 r1_.2.2.2) fun r134_ =>
 .t (r134_.1 == 0)
 (.c Yb (wu ([(-1 : Int), (7 : Int), (4611686018427387904 : Int)] : Y1) r134_.2.1 r134_.2.2.1 r134_.2.2.2) fun r135_ =>
 .l ((wrap .i64 ((1 : Int) + r1_.1)), (r135_.1, ((0 : Int), ((0 : Int), (([] : Y1), (r135_.2.1, (r135_.2.2.1, r135_.2.2.2))))))))
 (.t (r134_.1 == 1)
 (.c Yb (wu ([(-1 : Int), (1 : Int)] : Y1) r134_.2.1 r134_.2.2.1 r134_.2.2.2) fun r136_ =>
 .l ((wrap .i64 ((1 : Int) + r1_.1)), ((0 : Int), ((0 : Int), (r136_.1, (([] : Y1), (r136_.2.1, (r136_.2.2.1, r136_.2.2.2))))))))
 (.t (r134_.1 == 2)
 (.c Yb (wu ([(0 : Int), (12 : Int), (-1 : Int)] : Y1) r134_.2.1 r134_.2.2.1 r134_.2.2.2) fun r137_ =>
 .l (r137_.1, ((0 : Int), ((0 : Int), ((0 : Int), (([] : Y1), (r137_.2.1, (r137_.2.2.1, r137_.2.2.2))))))))
 (.t (r134_.1 == 3)
 (.g (decide (length ([(1 : Int)] : Y1) * 8 ≤ 140737488355328)) <|
 .l ((wrap .i64 ((1 : Int) + r1_.1)), ((0 : Int), ((0 : Int), ((0 : Int), (([(1 : Int)] : Y1), (r134_.2.1, (r134_.2.2.1, r134_.2.2.2))))))))
 (.l ((wrap .i64 ((1 : Int) + r1_.1)), ((0 : Int), ((0 : Int), ((0 : Int), (([] : Y1), (r134_.2.1, (r134_.2.2.1, r134_.2.2.2))))))))))))))))))))
noncomputable def wei (a4_ : Y1) (a5_ : List Y1) (a1_ : Y1) (a2_ : Int) (a3_ : Int) : Option Ybf := (wno a4_ a5_ a1_ a2_ a3_).ev
noncomputable def walb : RetK := { acts := [.ownB 4 4 1 3 yi, .ren 116 1, .ren 4800 1, .ren 5312 1], res := [.cell 4 72], sh := (yj [.agg (yj [.dat yi, .dat yi, .dat yi, .dat yi, .arr 1])]), obs := [(1, .arr 3 yi), Zc], pins := [(0, 0, 64)] }
noncomputable def wjv : FD := yd (yj [.box 64 0, .agg Zf]) [Zc] [.arg 0] Ybf (fun x => wei x.1.2.1.1 x.1.2.1.2.1 x.2.1.1 x.2.1.2.1 x.2.1.2.2.1) (fun r => ([.agg [.dat yi r.1, .dat yi r.2.1, .dat yi r.2.2.1, .dat yi r.2.2.2.1, .arr 1]], [(1, .arr 3 yi r.2.2.2.2.1), (64, .cells [.dat Zab r.2.2.2.2.2.1, .dat yi r.2.2.2.2.2.2.1, .dat (.int .u64) r.2.2.2.2.2.2.2])]))
noncomputable def walc : Nat → Nat → List Nat := fun r i => match look [(27, [(2, [96])]), (29, [(2, [102])]), (31, [(2, [108])]), (13, [(2, [49])]), (17, [(2, [63])])] r with
 | some l => (look l i).getD []
 | none => []
noncomputable def wus (a1_ : Int) (a2_ : Int) (a3_ : Int) (a4_ : Int) (a5_ : Y1) : Tr (Bool) :=
 .t (a1_ == 1)
 (.t (a1_ == 1)
 (.t (a3_ == 0)
 (.t (a4_ == 0)
 (.l (((length a5_ : Nat) : Int) == (0 : Int)))
 (.l false))
 (.l false))
 (.t (a1_ == 3)
 (.t (a1_ == 3)
 (.t (a4_ == 0)
 (.l (((length a5_ : Nat) : Int) == (0 : Int)))
 (.l false))
 (.t (a1_ == 5)
 (.l (((length a5_ : Nat) : Int) == (0 : Int)))
 (.t (a1_ == 6)
 (.t (a3_ == 0)
 (.l (a4_ == 0))
 (.l false))
 (.t (a1_ == 7)
 (.t (a2_ == 0)
 (.t (a3_ == 0)
 (.l (a4_ == 0))
 (.l false))
 (.l false))
 (.t (a1_ == 10)
 (.t (a2_ == 0)
 (.t (a3_ == 0)
 (.t (a4_ == 0)
 (.l (((length a5_ : Nat) : Int) == (0 : Int)))
 (.l false))
 (.l false))
 (.l false))
 (.t (a1_ == 11)
 (.t (a2_ == 0)
 (.t (a3_ == 0)
 (.t (a4_ == 0)
 (.l (((length a5_ : Nat) : Int) == (0 : Int)))
 (.l false))
 (.l false))
 (.l false))
 (.l false)))))))
 (.t (a1_ == 4)
 (.t (a4_ == 0)
 (.l (((length a5_ : Nat) : Int) == (0 : Int)))
 (.l false))
 (.t (a1_ == 5)
 (.l (((length a5_ : Nat) : Int) == (0 : Int)))
 (.t (a1_ == 6)
 (.t (a3_ == 0)
 (.l (a4_ == 0))
 (.l false))
 (.t (a1_ == 7)
 (.t (a2_ == 0)
 (.t (a3_ == 0)
 (.l (a4_ == 0))
 (.l false))
 (.l false))
 (.t (a1_ == 10)
 (.t (a2_ == 0)
 (.t (a3_ == 0)
 (.t (a4_ == 0)
 (.l (((length a5_ : Nat) : Int) == (0 : Int)))
 (.l false))
 (.l false))
 (.l false))
 (.t (a1_ == 11)
 (.t (a2_ == 0)
 (.t (a3_ == 0)
 (.t (a4_ == 0)
 (.l (((length a5_ : Nat) : Int) == (0 : Int)))
 (.l false))
 (.l false))
 (.l false))
 (.l false)))))))))
 (.t (a1_ == 2)
 (.t (a1_ == 2)
 (.t (a3_ == 0)
 (.t (a4_ == 0)
 (.l (((length a5_ : Nat) : Int) == (0 : Int)))
 (.l false))
 (.l false))
 (.t (a1_ == 3)
 (.t (a1_ == 3)
 (.t (a4_ == 0)
 (.l (((length a5_ : Nat) : Int) == (0 : Int)))
 (.l false))
 (.t (a1_ == 5)
 (.l (((length a5_ : Nat) : Int) == (0 : Int)))
 (.t (a1_ == 6)
 (.t (a3_ == 0)
 (.l (a4_ == 0))
 (.l false))
 (.t (a1_ == 7)
 (.t (a2_ == 0)
 (.t (a3_ == 0)
 (.l (a4_ == 0))
 (.l false))
 (.l false))
 (.t (a1_ == 10)
 (.t (a2_ == 0)
 (.t (a3_ == 0)
 (.t (a4_ == 0)
 (.l (((length a5_ : Nat) : Int) == (0 : Int)))
 (.l false))
 (.l false))
 (.l false))
 (.t (a1_ == 11)
 (.t (a2_ == 0)
 (.t (a3_ == 0)
 (.t (a4_ == 0)
 (.l (((length a5_ : Nat) : Int) == (0 : Int)))
 (.l false))
 (.l false))
 (.l false))
 (.l false)))))))
 (.t (a1_ == 4)
 (.t (a4_ == 0)
 (.l (((length a5_ : Nat) : Int) == (0 : Int)))
 (.l false))
 (.t (a1_ == 5)
 (.l (((length a5_ : Nat) : Int) == (0 : Int)))
 (.t (a1_ == 6)
 (.t (a3_ == 0)
 (.l (a4_ == 0))
 (.l false))
 (.t (a1_ == 7)
 (.t (a2_ == 0)
 (.t (a3_ == 0)
 (.l (a4_ == 0))
 (.l false))
 (.l false))
 (.t (a1_ == 10)
 (.t (a2_ == 0)
 (.t (a3_ == 0)
 (.t (a4_ == 0)
 (.l (((length a5_ : Nat) : Int) == (0 : Int)))
 (.l false))
 (.l false))
 (.l false))
 (.t (a1_ == 11)
 (.t (a2_ == 0)
 (.t (a3_ == 0)
 (.t (a4_ == 0)
 (.l (((length a5_ : Nat) : Int) == (0 : Int)))
 (.l false))
 (.l false))
 (.l false))
 (.l false)))))))))
 (.t (a1_ == 8)
 (.t (a1_ == 8)
 (.t (a3_ == 0)
 (.t (a4_ == 0)
 (.l (((length a5_ : Nat) : Int) == (0 : Int)))
 (.l false))
 (.l false))
 (.t (a1_ == 3)
 (.t (a1_ == 3)
 (.t (a4_ == 0)
 (.l (((length a5_ : Nat) : Int) == (0 : Int)))
 (.l false))
 (.t (a1_ == 5)
 (.l (((length a5_ : Nat) : Int) == (0 : Int)))
 (.t (a1_ == 6)
 (.t (a3_ == 0)
 (.l (a4_ == 0))
 (.l false))
 (.t (a1_ == 7)
 (.t (a2_ == 0)
 (.t (a3_ == 0)
 (.l (a4_ == 0))
 (.l false))
 (.l false))
 (.t (a1_ == 10)
 (.t (a2_ == 0)
 (.t (a3_ == 0)
 (.t (a4_ == 0)
 (.l (((length a5_ : Nat) : Int) == (0 : Int)))
 (.l false))
 (.l false))
 (.l false))
 (.t (a1_ == 11)
 (.t (a2_ == 0)
 (.t (a3_ == 0)
 (.t (a4_ == 0)
 (.l (((length a5_ : Nat) : Int) == (0 : Int)))
 (.l false))
 (.l false))
 (.l false))
 (.l false)))))))
 (.t (a1_ == 4)
 (.t (a4_ == 0)
 (.l (((length a5_ : Nat) : Int) == (0 : Int)))
 (.l false))
 (.t (a1_ == 5)
 (.l (((length a5_ : Nat) : Int) == (0 : Int)))
 (.t (a1_ == 6)
 (.t (a3_ == 0)
 (.l (a4_ == 0))
 (.l false))
 (.t (a1_ == 7)
 (.t (a2_ == 0)
 (.t (a3_ == 0)
 (.l (a4_ == 0))
 (.l false))
 (.l false))
 (.t (a1_ == 10)
 (.t (a2_ == 0)
 (.t (a3_ == 0)
 (.t (a4_ == 0)
 (.l (((length a5_ : Nat) : Int) == (0 : Int)))
 (.l false))
 (.l false))
 (.l false))
 (.t (a1_ == 11)
 (.t (a2_ == 0)
 (.t (a3_ == 0)
 (.t (a4_ == 0)
 (.l (((length a5_ : Nat) : Int) == (0 : Int)))
 (.l false))
 (.l false))
 (.l false))
 (.l false)))))))))
 (.t (a1_ == 9)
 (.t (a3_ == 0)
 (.t (a4_ == 0)
 (.l (((length a5_ : Nat) : Int) == (0 : Int)))
 (.l false))
 (.l false))
 (.t (a1_ == 3)
 (.t (a1_ == 3)
 (.t (a4_ == 0)
 (.l (((length a5_ : Nat) : Int) == (0 : Int)))
 (.l false))
 (.t (a1_ == 5)
 (.l (((length a5_ : Nat) : Int) == (0 : Int)))
 (.t (a1_ == 6)
 (.t (a3_ == 0)
 (.l (a4_ == 0))
 (.l false))
 (.t (a1_ == 7)
 (.t (a2_ == 0)
 (.t (a3_ == 0)
 (.l (a4_ == 0))
 (.l false))
 (.l false))
 (.t (a1_ == 10)
 (.t (a2_ == 0)
 (.t (a3_ == 0)
 (.t (a4_ == 0)
 (.l (((length a5_ : Nat) : Int) == (0 : Int)))
 (.l false))
 (.l false))
 (.l false))
 (.t (a1_ == 11)
 (.t (a2_ == 0)
 (.t (a3_ == 0)
 (.t (a4_ == 0)
 (.l (((length a5_ : Nat) : Int) == (0 : Int)))
 (.l false))
 (.l false))
 (.l false))
 (.l false)))))))
 (.t (a1_ == 4)
 (.t (a4_ == 0)
 (.l (((length a5_ : Nat) : Int) == (0 : Int)))
 (.l false))
 (.t (a1_ == 5)
 (.l (((length a5_ : Nat) : Int) == (0 : Int)))
 (.t (a1_ == 6)
 (.t (a3_ == 0)
 (.l (a4_ == 0))
 (.l false))
 (.t (a1_ == 7)
 (.t (a2_ == 0)
 (.t (a3_ == 0)
 (.l (a4_ == 0))
 (.l false))
 (.l false))
 (.t (a1_ == 10)
 (.t (a2_ == 0)
 (.t (a3_ == 0)
 (.t (a4_ == 0)
 (.l (((length a5_ : Nat) : Int) == (0 : Int)))
 (.l false))
 (.l false))
 (.l false))
 (.t (a1_ == 11)
 (.t (a2_ == 0)
 (.t (a3_ == 0)
 (.t (a4_ == 0)
 (.l (((length a5_ : Nat) : Int) == (0 : Int)))
 (.l false))
 (.l false))
 (.l false))
 (.l false)))))))))))
noncomputable def wnp (a1_ : Int) (a2_ : Int) (a3_ : Int) (a4_ : Int) (a5_ : Y1) : Option (Bool) := (wus a1_ a2_ a3_ a4_ a5_).ev
noncomputable def wald : RetK := yr [.tmp 2] Zp
noncomputable def wut : FD := yd (yj [.agg Zad]) [] [] Bool (fun x => wnp x.1.1.1 x.1.1.2.1 x.1.1.2.2.1 x.1.1.2.2.2.1 x.1.1.2.2.2.2.1) (fun r => ([.dat .bool r], []))
noncomputable def wuu (a1_ : Y1) (_a2_ : List Y1) (a3_ : Int) : Tr (Bool) :=
 .c (Bool) (wap a3_ (0 : Int) (wrap .i64 (((length a1_ : Nat) : Int) - 1))) fun r1_ =>
 .l r1_
noncomputable def wdm (a1_ : Y1) (a2_ : List Y1) (a3_ : Int) : Option (Bool) := (wuu a1_ a2_ a3_).ev
noncomputable def wale : RetK := yr [.tmp 4] Zp
noncomputable def wnq : FD := yd (yj [.agg Zf, .dat yi]) [] [] Bool (fun x => wdm x.1.1.1 x.1.1.2.1 x.1.2.1) (fun r => ([.dat .bool r], []))
noncomputable def wca (k : Y1 × Int) (v : Int) : Tr ((Int) ⊕ ((Unit) ⊕ (Unit))) :=
 .t (decide (v < ((length k.1 : Nat) : Int)))
 (.g (inR v (length k.1)) <|
 .t ((getD k.1 (toNat v) 0) == k.2)
 (.l (.inr (.inr ())))
 (.l (.inl (wrap .i64 (v + 1)))))
 (.l (.inr (.inl ())))
noncomputable def wjw (k : Y1 × Int) (v : Int) : Option ((Unit) ⊕ (Unit)) := iter (fun v => (wca k v).ev) v
noncomputable def wft : LD := ⟨(yh [0, 1, 5] Zas), [(0, (yh [] .nil))], (yh [4] Zp), Y1 × (Int), Int, (Unit) ⊕ (Unit), fun k v => ((k.1, (k.2, (v, ()))), ()), fun t => (t.1.1, t.1.2.1), fun t => t.1.2.2.1, wca, fun _ r => .s (Unit) (Unit) r (fun _ => .l (.exit 0 (mkSt ((ys [] .nil)) ((), ())))) (fun _ => .l (.ret (mkSt ((ys [4] Zp)) ((true, ()), ()))))⟩
noncomputable def wuv (a1_ : Y1) (a2_ : Int) : Tr (Bool) :=
 .c ((Unit) ⊕ (Unit)) (wjw (a1_, a2_) (0 : Int)) fun r5_ =>
 .s (Unit) (Unit) r5_
 (fun _ => .l false)
 (fun _ => .l true)
noncomputable def wcb (a1_ : Y1) (a2_ : Int) : Option (Bool) := (wuv a1_ a2_).ev
noncomputable def walf : RetK := yr [.tmp 4] Zp
noncomputable def wjx : FD := yd (yj [.dat y1, .dat yi]) [] [] Bool (fun x => wcb x.1.1 x.1.2.1) (fun r => ([.dat .bool r], []))
noncomputable def wuw : Env := envOf []
noncomputable def wux : List (Nat × LD) := [(0, wft)]
noncomputable def wuy : Code := (f112.body).getD .skip
noncomputable def wuz (a1_ : Y1) (a2_ : List Y1) (a3_ : Y1) (_a4_ : Int) (a5_ : Int) : Tr (Bool) :=
 .c (Bool) (wdm a1_ a2_ a5_) fun r1_ =>
 .t r1_
 (.c (Bool) (wcb a3_ a5_) fun r2_ =>
 .l (!r2_))
 (.l false)
noncomputable def wej (a1_ : Y1) (a2_ : List Y1) (a3_ : Y1) (a4_ : Int) (a5_ : Int) : Option (Bool) := (wuz a1_ a2_ a3_ a4_ a5_).ev
noncomputable def walg : RetK := yr [.tmp 4] Zp
noncomputable def wva : FD := yd (yj [.agg Zk, .dat yi]) [] [] Bool (fun x => wej x.1.1.1 x.1.1.2.1 x.1.1.2.2.1 x.1.1.2.2.2.1 x.1.2.1) (fun r => ([.dat .bool r], []))
noncomputable def wvb (a1_ : Y1) (a2_ : List Y1) (a3_ : Y1) (a4_ : Int) (a5_ : Int) (a6_ : Int) (a7_ : Int) (_a8_ : Int) (a9_ : Y1) : Tr (Bool) :=
 .t (a5_ == 1)
 (.t (a5_ == 1)
 (.c (Bool) (wej a1_ a2_ a3_ a4_ a6_) fun r1_ =>
 .l r1_)
 (.t (a5_ == 2)
 (.c (Bool) (wcb a3_ a6_) fun r2_ =>
 .l r2_)
 (.t (a5_ == 3)
 (.c (Bool) (wcb a3_ a6_) fun r3_ =>
 .t r3_
 (.c (Bool) (wej a1_ a2_ a3_ a4_ a7_) fun r4_ =>
 .l r4_)
 (.l false))
 (.t (a5_ == 4)
 (.c (Bool) (wdm a1_ a2_ a6_) fun r5_ =>
 .l r5_)
 (.t (a5_ == 5)
 (.c (Bool) (wap a6_ (0 : Int) (wrap .i64 (((length a2_ : Nat) : Int) - 1))) fun r6_ =>
 .t r6_
 (.c (Bool) (wdm a1_ a2_ a7_) fun r7_ =>
 .l r7_)
 (.l false))
 (.t (a5_ == 6)
 (.l (((length a9_ : Nat) : Int) == ((length a2_ : Nat) : Int)))
 (.t (a5_ == 9)
 (.c (Bool) (wap a6_ (0 : Int) (wrap .i64 (((length a2_ : Nat) : Int) - 1))) fun r8_ =>
 .l r8_)
 (.t (a5_ == 10)
 (.l (decide ((0 : Int) < ((length a3_ : Nat) : Int))))
 (.l true)))))))))
 (.t (a5_ == 8)
 (.c (Bool) (wej a1_ a2_ a3_ a4_ a6_) fun r9_ =>
 .l r9_)
 (.t (a5_ == 2)
 (.c (Bool) (wcb a3_ a6_) fun r10_ =>
 .l r10_)
 (.t (a5_ == 3)
 (.c (Bool) (wcb a3_ a6_) fun r11_ =>
 .t r11_
 (.c (Bool) (wej a1_ a2_ a3_ a4_ a7_) fun r12_ =>
 .l r12_)
 (.l false))
 (.t (a5_ == 4)
 (.c (Bool) (wdm a1_ a2_ a6_) fun r13_ =>
 .l r13_)
 (.t (a5_ == 5)
 (.c (Bool) (wap a6_ (0 : Int) (wrap .i64 (((length a2_ : Nat) : Int) - 1))) fun r14_ =>
 .t r14_
 (.c (Bool) (wdm a1_ a2_ a7_) fun r15_ =>
 .l r15_)
 (.l false))
 (.t (a5_ == 6)
 (.l (((length a9_ : Nat) : Int) == ((length a2_ : Nat) : Int)))
 (.t (a5_ == 9)
 (.c (Bool) (wap a6_ (0 : Int) (wrap .i64 (((length a2_ : Nat) : Int) - 1))) fun r16_ =>
 .l r16_)
 (.t (a5_ == 10)
 (.l (decide ((0 : Int) < ((length a3_ : Nat) : Int))))
 (.l true)))))))))
noncomputable def wnr (a1_ : Y1) (a2_ : List Y1) (a3_ : Y1) (a4_ : Int) (a5_ : Int) (a6_ : Int) (a7_ : Int) (a8_ : Int) (a9_ : Y1) : Option (Bool) := (wvb a1_ a2_ a3_ a4_ a5_ a6_ a7_ a8_ a9_).ev
noncomputable def walh : RetK := yr [.tmp 4] Zp
noncomputable def wvc : FD := yd (yj [.agg Zk, .agg Zad]) [] [] Bool (fun x => wnr x.1.1.1 x.1.1.2.1 x.1.1.2.2.1 x.1.1.2.2.2.1 x.1.2.1.1 x.1.2.1.2.1 x.1.2.1.2.2.1 x.1.2.1.2.2.2.1 x.1.2.1.2.2.2.2.1) (fun r => ([.dat .bool r], []))
noncomputable def wau (k : Y1 × Int) (v : Int) : Tr ((Int) ⊕ (Int)) :=
 .t (decide (v < ((length k.1 : Nat) : Int)))
 (.g (inR v (length k.1)) <|
 .t (decide ((getD k.1 (toNat v) 0) < k.2))
 (.l (.inl (wrap .i64 (v + 1))))
 (.l (.inr v)))
 (.l (.inr v))
noncomputable def wek (k : Y1 × Int) (v : Int) : Option (Int) := iter (fun v => (wau k v).ev) v
noncomputable def wfu : LD := ⟨(yh [0, 1, 5] Zas), [(0, (yh [0, 1, 5] Zas))], (yh [] .nil), Y1 × (Int), Int, Int, fun k v => ((k.1, (k.2, (v, ()))), ()), fun t => (t.1.1, t.1.2.1), fun t => t.1.2.2.1, wau, fun k r => .l (.exit 0 (mkSt ((ys [0, 1, 5] Zas)) ((k.1, (k.2, (r, ()))), ())))⟩
noncomputable def wvd (a1_ : Y1) (a2_ : Int) : Tr Y1 :=
 .c (Int) (wek (a1_, a2_) (0 : Int)) fun r7_ =>
 .t (decide (r7_ < ((length a1_ : Nat) : Int)))
 (.g (inR r7_ (length a1_)) <|
 .t ((getD a1_ (toNat r7_) 0) == a2_)
 (.f)
 (.g (decide (0 ≤ r7_) && decide (r7_ ≤ ((length a1_ : Nat) : Int))) <|
 .g (decide ((length ([] : Y1) + length (List.drop 0 (List.take (toNat r7_) a1_))) * 8 ≤ 140737488355328)) <|
 .g (decide ((length (([] : Y1) ++ (List.drop 0 (List.take (toNat r7_) a1_))) + length ([a2_] : Y1)) * 8 ≤ 140737488355328)) <|
 .g (decide (0 ≤ r7_) && decide (r7_ ≤ ((length a1_ : Nat) : Int))) <|
 .g (decide ((length ((([] : Y1) ++ (List.drop 0 (List.take (toNat r7_) a1_))) ++ ([a2_] : Y1)) + length (List.drop (toNat r7_) (List.take (length a1_) a1_))) * 8 ≤ 140737488355328)) <|
 .l (((([] : Y1) ++ (List.drop 0 (List.take (toNat r7_) a1_))) ++ ([a2_] : Y1)) ++ (List.drop (toNat r7_) (List.take (length a1_) a1_)))))
 (.g (decide (0 ≤ r7_) && decide (r7_ ≤ ((length a1_ : Nat) : Int))) <|
 .g (decide ((length ([] : Y1) + length (List.drop 0 (List.take (toNat r7_) a1_))) * 8 ≤ 140737488355328)) <|
 .g (decide ((length (([] : Y1) ++ (List.drop 0 (List.take (toNat r7_) a1_))) + length ([a2_] : Y1)) * 8 ≤ 140737488355328)) <|
 .g (decide (0 ≤ r7_) && decide (r7_ ≤ ((length a1_ : Nat) : Int))) <|
 .g (decide ((length ((([] : Y1) ++ (List.drop 0 (List.take (toNat r7_) a1_))) ++ ([a2_] : Y1)) + length (List.drop (toNat r7_) (List.take (length a1_) a1_))) * 8 ≤ 140737488355328)) <|
 .l (((([] : Y1) ++ (List.drop 0 (List.take (toNat r7_) a1_))) ++ ([a2_] : Y1)) ++ (List.drop (toNat r7_) (List.take (length a1_) a1_))))
noncomputable def wdo (a1_ : Y1) (a2_ : Int) : Option Y1 := (wvd a1_ a2_).ev
noncomputable def wali : RetK := { acts := [.ren 33 0], res := [.tmp 4], sh := (yj [.arr 0]), obs := [Zbe], pins := [] }
noncomputable def wns : FD := yd (yj [.dat y1, .dat yi]) [] [] Y1 (fun x => wdo x.1.1 x.1.2.1) (fun r => ([.arr 0], [(0, .arr 3 yi r)]))
noncomputable def wve : Nat → Nat → List Nat := fun r i => match look [(5, [(1, [140000000])])] r with
 | some l => (look l i).getD []
 | none => []
noncomputable def wvf : Env := envOf []
noncomputable def wvg : List (Nat × LD) := [(0, wfu)]
noncomputable def wvh : Code := (f169.body).getD .skip
noncomputable def wav (k : Y1 × Int) (v : Int × Y1) : Tr ((Int × Y1) ⊕ Y1) :=
 .t (decide (v.1 < ((length k.1 : Nat) : Int)))
 (.g (inR v.1 (length k.1)) <|
 .t ((getD k.1 (toNat v.1) 0) != k.2)
 (.g (inR v.1 (length k.1)) <|
 .g (decide ((length v.2 + length ([(getD k.1 (toNat v.1) 0)] : Y1)) * 8 ≤ 140737488355328)) <|
 .l (.inl ((wrap .i64 (v.1 + 1)), (v.2 ++ ([(getD k.1 (toNat v.1) 0)] : Y1)))))
 (.l (.inl ((wrap .i64 (v.1 + 1)), v.2))))
 (.l (.inr v.2))
noncomputable def wel (k : Y1 × Int) (v : Int × Y1) : Option Y1 := iter (fun v => (wav k v).ev) v
noncomputable def wfv : LD := ⟨{ acts := [], S := { slots := [0, 1, 5, 6], sh := (yj [.dat y1, .dat yi, .arr 7, .dat yi]), obs := [(7, .arr 3 yi)] } }, [(0, { acts := [], S := { slots := [5], sh := (yj [.arr 7]), obs := [(7, .arr 3 yi)] } })], (yh [] .nil), Y1 × (Int), Int × Y1, Y1, fun k v => ((k.1, (k.2, ((), (v.1, ())))), (v.2, ())), fun t => (t.1.1, t.1.2.1), fun t => (t.1.2.2.2.1, t.2.1), wav, fun _ r => .l (.exit 0 (mkSt ({ slots := [5], sh := (yj [.arr 7]), obs := [(7, .arr 3 yi)] }) (((), ()), (r, ()))))⟩
noncomputable def wvi (a1_ : Y1) (a2_ : Int) : Tr Y1 :=
 .c Y1 (wel (a1_, a2_) ((0 : Int), ([] : Y1))) fun r6_ =>
 .l r6_
noncomputable def whx (a1_ : Y1) (a2_ : Int) : Option Y1 := (wvi a1_ a2_).ev
noncomputable def walj : RetK := { acts := [.ren 7 0], res := [.tmp 4], sh := (yj [.arr 0]), obs := [Zbe], pins := [] }
noncomputable def wnt : FD := yd (yj [.dat y1, .dat yi]) [] [] Y1 (fun x => whx x.1.1 x.1.2.1) (fun r => ([.arr 0], [(0, .arr 3 yi r)]))
noncomputable def wvj : Env := envOf []
noncomputable def wvk : List (Nat × LD) := [(0, wfv)]
noncomputable def wvl : Code := (f245.body).getD .skip
noncomputable def wvm (a1_ : Y1) (a2_ : Int) : Tr Y1 :=
 .g (decide (0 ≤ a2_) && decide (a2_ ≤ ((length a1_ : Nat) : Int))) <|
 .c Y1 (wad (List.drop 0 (List.take (toNat a2_) a1_))) fun r1_ =>
 .g (decide ((0 : Int) ≤ (wrap .i64 (a2_ + 1))) && decide ((wrap .i64 (a2_ + 1)) ≤ ((length a1_ : Nat) : Int))) <|
 .g (decide ((length r1_ + length (List.drop (toNat (wrap .i64 (a2_ + 1))) (List.take (length a1_) a1_))) * 8 ≤ 140737488355328)) <|
 .l (r1_ ++ (List.drop (toNat (wrap .i64 (a2_ + 1))) (List.take (length a1_) a1_)))
noncomputable def wjy (a1_ : Y1) (a2_ : Int) : Option Y1 := (wvm a1_ a2_).ev
noncomputable def walm : RetK := { acts := [.ren 512 0], res := [.tmp 4], sh := (yj [.arr 0]), obs := [Zbe], pins := [] }
noncomputable def wvn : FD := yd (yj [.dat y1, .dat yi]) [] [] Y1 (fun x => wjy x.1.1 x.1.2.1) (fun r => ([.arr 0], [(0, .arr 3 yi r)]))
noncomputable def wcc (k : Int × (Y1 × (Y2 × (Y1 × Yae)))) (v : Int × Y2) : Tr ((Int × Y2) ⊕ Y2) :=
 .t (decide (v.1 < ((length k.2.2.1 : Nat) : Int)))
 (.g (inR v.1 (length k.2.2.1)) <|
 .c Y1 (wjy (getD k.2.2.1 (toNat v.1) ([] : Y1)) k.1) fun r14_ =>
 .g (inR v.1 (length v.2)) <|
 .g (decide ((toNat v.1) < length v.2)) <|
 .l (.inl ((wrap .i64 (v.1 + 1)), (set v.2 (toNat v.1) r14_))))
 (.l (.inr v.2))
noncomputable def wjz (k : Int × (Y1 × (Y2 × (Y1 × Yae)))) (v : Int × Y2) : Option Y2 := iter (fun v => (wcc k v).ev) v
noncomputable def wfw : LD := ⟨{ acts := [], S := { slots := [1, 2, 4, 5, 6], sh := (yj [.dat yi, .box 2 0, .box 4 0, .box 5 0, .dat yi]), obs := [(2, .cells Zk), Zba, Zam, (896, .arr 3 yi), (581, .rows 24 3 yi), (582, .arr 3 yi)] } }, [(0, { acts := [], S := { slots := [1, 4, 5], sh := (yj [.dat yi, .box 4 0, .box 5 0]), obs := [Zba, Zam, (896, .arr 3 yi), (581, .rows 24 3 yi), (582, .arr 3 yi)] } })], (yh [] .nil), Int × (Y1 × (Y2 × (Y1 × Yae))), Int × Y2, List Y1, fun k v => ((k.1, ((), ((), ((), (v.1, ()))))), ((k.2.1, (k.2.2.1, (k.2.2.2.1, (k.2.2.2.2.1, ())))), (((), ((), ((), (k.2.2.2.2.2.1, ())))), (((), ((), ((), (k.2.2.2.2.2.2.1, ())))), (k.2.2.2.2.2.2.2.1, (v.2, (k.2.2.2.2.2.2.2.2, ()))))))), fun t => (t.1.1, (t.2.1.1, (t.2.1.2.1, (t.2.1.2.2.1, (t.2.1.2.2.2.1, (t.2.2.1.2.2.2.1, (t.2.2.2.1.2.2.2.1, (t.2.2.2.2.1, t.2.2.2.2.2.2.1)))))))), fun t => (t.1.2.2.2.2.1, t.2.2.2.2.2.1), wcc, fun k r => .l (.exit 0 (mkSt ({ slots := [1, 4, 5], sh := (yj [.dat yi, .box 4 0, .box 5 0]), obs := [Zba, Zam, (896, .arr 3 yi), (581, .rows 24 3 yi), (582, .arr 3 yi)] }) ((k.1, ((), ((), ()))), (((), ((), ((), (k.2.2.2.2.2.1, ())))), (((), ((), ((), (k.2.2.2.2.2.2.1, ())))), (k.2.2.2.2.2.2.2.1, (r, (k.2.2.2.2.2.2.2.2, ()))))))))⟩
noncomputable def waw (k : Int × (Int × Yax)) (v : Int × Y1) : Tr ((Int × Y1) ⊕ Y1) :=
 .t (decide (v.1 < ((length v.2 : Nat) : Int)))
 (.g (inR v.1 (length v.2)) <|
 .g (decide ((toNat v.1) < length v.2)) <|
 .t (decide (k.1 < (getD v.2 (toNat v.1) 0)))
 (.g (inR v.1 (length v.2)) <|
 .g (decide ((toNat v.1) < length v.2)) <|
 .g (inR v.1 (length v.2)) <|
 .g (decide ((toNat v.1) < length v.2)) <|
 .l (.inl ((wrap .i64 (v.1 + 1)), (set v.2 (toNat v.1) (wrap .i64 ((getD v.2 (toNat v.1) 0) - 1))))))
 (.l (.inl ((wrap .i64 (v.1 + 1)), v.2))))
 (.l (.inr v.2))
noncomputable def wkc (k : Int × (Int × Yax)) (v : Int × Y1) : Option Y1 := iter (fun v => (waw k v).ev) v
noncomputable def wfx : LD := ⟨{ acts := [], S := { slots := [1, 4, 5, 7], sh := (yj [.dat yi, .box 4 0, .box 5 0, .dat yi]), obs := [Zba, Zam, (896, .arr 3 yi), (581, .rows 24 3 yi), (582, .arr 3 yi)] } }, [(2, { acts := [], S := { slots := [4, 5], sh := (yj [.box 4 0, .box 5 0]), obs := [Zba, Zam, (896, .arr 3 yi), (581, .rows 24 3 yi), (582, .arr 3 yi)] } })], (yh [] .nil), Int × (Int × Yax), Int × Y1, Y1, fun k v => ((k.1, ((), ((), (v.1, ())))), (((), ((), ((), (k.2.1, ())))), (((), ((), ((), (k.2.2.1, ())))), (k.2.2.2.1, (k.2.2.2.2, (v.2, ())))))), fun t => (t.1.1, (t.2.1.2.2.2.1, (t.2.2.1.2.2.2.1, (t.2.2.2.1, t.2.2.2.2.1)))), fun t => (t.1.2.2.2.1, t.2.2.2.2.2.1), waw, fun k r => .l (.exit 2 (mkSt ({ slots := [4, 5], sh := (yj [.box 4 0, .box 5 0]), obs := [Zba, Zam, (896, .arr 3 yi), (581, .rows 24 3 yi), (582, .arr 3 yi)] }) (((), ((), ())), (((), ((), ((), (k.2.1, ())))), (((), ((), ((), (k.2.2.1, ())))), (k.2.2.2.1, (k.2.2.2.2, (r, ()))))))))⟩
noncomputable def wvo (a1_ : Y1) (a2_ : List Y1) (a3_ : Y1) (a4_ : Int) (a5_ : Int) : Tr Yn :=
 .c Yn (weh a1_ a2_ a3_ a4_) fun r1_ =>
 .c Y1 (wjy a1_ a5_) fun r2_ =>
 .c Y2 (wjz (a5_, (a1_, (a2_, (a3_, (a4_, ((0 : Int), (r1_.1, (r2_, r1_.2.2.2)))))))) ((0 : Int), r1_.2.2.1)) fun r21_ =>
 .c Y1 (wkc (a5_, ((0 : Int), (r1_.1, (r2_, r21_)))) ((0 : Int), r1_.2.2.2)) fun r34_ =>
 .l (r1_.1, (r2_, (r21_, r34_)))
noncomputable def wnu (a1_ : Y1) (a2_ : List Y1) (a3_ : Y1) (a4_ : Int) (a5_ : Int) : Option Yn := (wvo a1_ a2_ a3_ a4_ a5_).ev
noncomputable def waln : RetK := { acts := [.ren 896 1, .ren 581 2, .ren 582 3], res := [.cell 4 68], sh := (yj [.agg (yj [.arr 1, .arr 2, .arr 3, .dat yi])]), obs := [(1, .arr 3 yi), (2, .rows 24 3 yi), (3, .arr 3 yi)], pins := [] }
noncomputable def wvp : FD := yd (yj [.agg Zk, .dat yi]) [] [] Yn (fun x => wnu x.1.1.1 x.1.1.2.1 x.1.1.2.2.1 x.1.1.2.2.2.1 x.1.2.1) (fun r => ([.agg [.arr 1, .arr 2, .arr 3, .dat yi r.1]], [(1, .arr 3 yi r.2.1), (2, .rows 24 3 yi r.2.2.1 none), (3, .arr 3 yi r.2.2.2)]))
noncomputable def wnv : Env := envOf [(156, whu), (265, wvn)]
noncomputable def wnw : List (Nat × LD) := [(0, wfw), (2, wfx)]
noncomputable def wnx : Code := (f246.body).getD .skip
noncomputable def wvq (a1_ : Y1) (a2_ : List Y1) (a3_ : Y1) : Tr (Bool) :=
 .c (Bool) (wht a1_ a2_) fun r1_ =>
 .t r1_
 (.c (Bool) (wjq a1_ a2_ a3_) fun r2_ =>
 .t r2_
 (.l (decide ((0 : Int) < ((length a3_ : Nat) : Int))))
 (.l false))
 (.l false)
noncomputable def wny (a1_ : Y1) (a2_ : List Y1) (a3_ : Y1) : Option (Bool) := (wvq a1_ a2_ a3_).ev
noncomputable def walo : RetK := yr [.tmp 4] Zp
noncomputable def wvr : FD := yd (yj [.agg Zf, .dat y1]) [] [] Bool (fun x => wny x.1.1.1 x.1.1.2.1 x.1.2.1) (fun r => ([.dat .bool r], []))
noncomputable def wax (k : Y1 × (Int × ((Nat) × (Y1 × (Y2 × (Y2 × Y2)))))) (v : Int × Y2) : Tr ((Int × Y2) ⊕ Y2) :=
 .t (decide (v.1 < ((length k.2.2.2.1 : Nat) : Int)))
 (.c (Bool) (wcb k.1 v.1) fun r20_ =>
 .t (!r20_)
 (.c Y1 (wdo (getD k.2.2.2.2.2.2 k.2.2.1 ([] : Y1)) v.1) fun r21_ =>
 .g (decide ((length v.2 + 1) * 24 ≤ 140737488355328)) <|
 .l (.inl ((wrap .i64 (v.1 + 1)), (set (v.2 ++ [[]]) (length v.2) r21_))))
 (.l (.inl ((wrap .i64 (v.1 + 1)), v.2))))
 (.l (.inr v.2))
noncomputable def wkd (k : Y1 × (Int × ((Nat) × (Y1 × (Y2 × (Y2 × Y2)))))) (v : Int × Y2) : Option Y2 := iter (fun v => (wax k v).ev) v
noncomputable def wfy : LD := ⟨{ acts := [], S := { slots := [1, 2, 5, 6, 7, 8, 9, 10], sh := (yj [.dat y1, .box 2 0, .arr 11, .arr 12, .arr 13, .dat yi, .row 12, .dat yi]), obs := [(2, .cells Zf), (11, .rows 24 3 yi), (12, .rows 24 3 yi), (13, .rows 24 3 yi)] } }, [(2, { acts := [], S := { slots := [1, 2, 5, 6, 7, 8], sh := Zaq, obs := [(2, .cells Zf), (11, .rows 24 3 yi), (12, .rows 24 3 yi), (13, .rows 24 3 yi)] } })], (yh [] .nil), Y1 × (Int × ((Nat) × (Y1 × (Y2 × (Y2 × Y2))))), Int × Y2, List Y1, fun k v => ((k.1, ((), ((), ((), ((), (k.2.1, (k.2.2.1, (v.1, ())))))))), ((k.2.2.2.1, (k.2.2.2.2.1, ())), (k.2.2.2.2.2.1, (k.2.2.2.2.2.2, (v.2, ()))))), fun t => (t.1.1, (t.1.2.2.2.2.2.1, (t.1.2.2.2.2.2.2.1, (t.2.1.1, (t.2.1.2.1, (t.2.2.1, t.2.2.2.1)))))), fun t => (t.1.2.2.2.2.2.2.2.1, t.2.2.2.2.1), wax, fun k r => .l (.exit 2 (mkSt ({ slots := [1, 2, 5, 6, 7, 8], sh := Zaq, obs := [(2, .cells Zf), (11, .rows 24 3 yi), (12, .rows 24 3 yi), (13, .rows 24 3 yi)] }) ((k.1, ((), ((), ((), ((), (k.2.1, ())))))), ((k.2.2.2.1, (k.2.2.2.2.1, ())), (k.2.2.2.2.2.1, (k.2.2.2.2.2.2, (r, ())))))))⟩
noncomputable def wz (k : Y1 × (Int × (Y1 × (Y2 × (Y2 × (Y2 × Y1)))))) (v : Int × Y2) : Tr ((Int × Y2) ⊕ Y2) :=
 .t (decide (v.1 < ((length k.2.2.1 : Nat) : Int)))
 (.c (Bool) (wcb k.1 v.1) fun r39_ =>
 .t (!r39_)
 (.c Y1 (wdo k.2.2.2.2.2.2 v.1) fun r40_ =>
 .g (decide ((length v.2 + 1) * 24 ≤ 140737488355328)) <|
 .l (.inl ((wrap .i64 (v.1 + 1)), (set (v.2 ++ [[]]) (length v.2) r40_))))
 (.l (.inl ((wrap .i64 (v.1 + 1)), v.2))))
 (.l (.inr v.2))
noncomputable def wcd (k : Y1 × (Int × (Y1 × (Y2 × (Y2 × (Y2 × Y1)))))) (v : Int × Y2) : Option Y2 := iter (fun v => (wz k v).ev) v
noncomputable def wbg : LD := ⟨{ acts := [], S := { slots := [1, 2, 5, 6, 7, 8, 9, 10], sh := (yj [.dat y1, .box 2 0, .arr 11, .arr 12, .arr 13, .dat yi, .arr 2112, .dat yi]), obs := [(2, .cells Zf), (11, .rows 24 3 yi), (12, .rows 24 3 yi), (13, .rows 24 3 yi), (2112, .arr 3 yi)] } }, [(2, { acts := [], S := { slots := [1, 2, 5, 6, 7, 8], sh := Zaq, obs := [(2, .cells Zf), (11, .rows 24 3 yi), (12, .rows 24 3 yi), (13, .rows 24 3 yi)] } })], (yh [] .nil), Y1 × (Int × (Y1 × (Y2 × (Y2 × (Y2 × Y1))))), Int × Y2, List Y1, fun k v => ((k.1, ((), ((), ((), ((), (k.2.1, ((), (v.1, ())))))))), ((k.2.2.1, (k.2.2.2.1, ())), (k.2.2.2.2.1, (k.2.2.2.2.2.1, (v.2, (k.2.2.2.2.2.2, ())))))), fun t => (t.1.1, (t.1.2.2.2.2.2.1, (t.2.1.1, (t.2.1.2.1, (t.2.2.1, (t.2.2.2.1, t.2.2.2.2.2.1)))))), fun t => (t.1.2.2.2.2.2.2.2.1, t.2.2.2.2.1), wz, fun k r => .l (.exit 2 (mkSt ({ slots := [1, 2, 5, 6, 7, 8], sh := Zaq, obs := [(2, .cells Zf), (11, .rows 24 3 yi), (12, .rows 24 3 yi), (13, .rows 24 3 yi)] }) ((k.1, ((), ((), ((), ((), (k.2.1, ())))))), ((k.2.2.1, (k.2.2.2.1, ())), (k.2.2.2.2.1, (k.2.2.2.2.2.1, (r, ())))))))⟩
noncomputable def wae (k : Y1 × Yy) (v : Int × (Y2 × (Y2 × Y2))) : Tr ((Int × (Y2 × (Y2 × Y2))) ⊕ (Y2 × (Y2 × Y2))) :=
 .t (decide (v.1 < ((length k.2.1 : Nat) : Int)))
 (.c (Bool) (wcb k.1 v.1) fun r8_ =>
 .t (!r8_)
 (.c Y1 (wdo k.1 v.1) fun r9_ =>
 .g (decide ((length v.2.1 + 1) * 24 ≤ 140737488355328)) <|
 .l (.inl ((wrap .i64 (v.1 + 1)), ((set (v.2.1 ++ [[]]) (length v.2.1) r9_), (v.2.2.1, v.2.2.2)))))
 (.c Y1 (whx k.1 v.1) fun r10_ =>
 .t (decide ((0 : Int) < ((length r10_ : Nat) : Int)))
 (.g (decide ((length v.2.2.1 + 1) * 24 ≤ 140737488355328)) <|
 .c Y2 (wkd (k.1, (v.1, ((length v.2.2.1), (k.2.1, (k.2.2, (v.2.1, (set (v.2.2.1 ++ [[]]) (length v.2.2.1) r10_))))))) ((0 : Int), v.2.2.2)) fun r29_ =>
 .l (.inl ((wrap .i64 (v.1 + 1)), (v.2.1, ((set (v.2.2.1 ++ [[]]) (length v.2.2.1) r10_), r29_)))))
 (.c Y2 (wcd (k.1, (v.1, (k.2.1, (k.2.2, (v.2.1, (v.2.2.1, r10_)))))) ((0 : Int), v.2.2.2)) fun r48_ =>
 .l (.inl ((wrap .i64 (v.1 + 1)), (v.2.1, (v.2.2.1, r48_)))))))
 (.l (.inr (v.2.1, (v.2.2.1, v.2.2.2))))
noncomputable def wke (k : Y1 × Yy) (v : Int × (Y2 × (Y2 × Y2))) : Option (Y2 × (Y2 × Y2)) := iter (fun v => (wae k v).ev) v
noncomputable def wfz : LD := ⟨{ acts := [], S := { slots := [1, 2, 5, 6, 7, 8], sh := Zaq, obs := [(2, .cells Zf), (11, .rows 24 3 yi), (12, .rows 24 3 yi), (13, .rows 24 3 yi)] } }, [(0, { acts := [], S := { slots := [5, 6, 7], sh := (yj [.arr 11, .arr 12, .arr 13]), obs := [(11, .rows 24 3 yi), (12, .rows 24 3 yi), (13, .rows 24 3 yi)] } })], (yh [] .nil), Y1 × Yy, Int × (Y2 × (Y2 × Y2)), Y2 × (Y2 × Y2), fun k v => ((k.1, ((), ((), ((), ((), (v.1, ())))))), ((k.2.1, (k.2.2, ())), (v.2.1, (v.2.2.1, (v.2.2.2, ()))))), fun t => (t.1.1, (t.2.1.1, t.2.1.2.1)), fun t => (t.1.2.2.2.2.2.1, (t.2.2.1, (t.2.2.2.1, t.2.2.2.2.1))), wae, fun _ r => .l (.exit 0 (mkSt ({ slots := [5, 6, 7], sh := (yj [.arr 11, .arr 12, .arr 13]), obs := [(11, .rows 24 3 yi), (12, .rows 24 3 yi), (13, .rows 24 3 yi)] }) (((), ((), ((), ()))), (r.1, (r.2.1, (r.2.2, ()))))))⟩
noncomputable def wvs (a1_ : Y1) (a2_ : List Y1) (a3_ : Y1) : Tr Y2 :=
 .c (Y2 × (Y2 × Y2)) (wke (a3_, (a1_, a2_)) ((0 : Int), (([] : List Y1), (([] : List Y1), ([] : List Y1))))) fun r52_ =>
 .g (decide ((length r52_.1 + length r52_.2.1) * 24 ≤ 140737488355328)) <|
 .g (decide ((length (r52_.1 ++ r52_.2.1) + length r52_.2.2) * 24 ≤ 140737488355328)) <|
 .l ((r52_.1 ++ r52_.2.1) ++ r52_.2.2)
noncomputable def wnz (a1_ : Y1) (a2_ : List Y1) (a3_ : Y1) : Option Y2 := (wvs a1_ a2_ a3_).ev
noncomputable def walp : RetK := { acts := [.ren 13 0], res := [.tmp 4], sh := (yj [.arr 0]), obs := [(0, .rows 24 3 yi)], pins := [] }
noncomputable def wvt : FD := yd (yj [.agg Zf, .dat y1]) [] [] (List Y1) (fun x => wnz x.1.1.1 x.1.1.2.1 x.1.2.1) (fun r => ([.arr 0], [(0, .rows 24 3 yi r none)]))
noncomputable def wkf : Nat → Nat → List Nat := fun r i => match look [(1, [(0, [1000000]), (1, [1000000]), (2, [1000000])])] r with
 | some l => (look l i).getD []
 | none => []
noncomputable def wkg : Env := envOf [(112, wjx), (169, wns), (245, wnt)]
noncomputable def wkh : List (Nat × LD) := [(2, wfy), (2, wbg), (0, wfz)]
noncomputable def wki : Code := (f227.body).getD .skip
end Go.Proofs.YtnagpmhaddfgmaaGreat
