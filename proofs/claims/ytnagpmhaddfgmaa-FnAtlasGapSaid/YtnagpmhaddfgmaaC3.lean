import Derived.Test.YtnagpmhaddfgmaaB31
import Derived.Test.YtnagpmhaddfgmaaProg
namespace Go.Proofs.Ytnagpmhaddfgmaa
open Go.Proofs.Try
open List (length getD set)
open Int (toNat)
open IntKind (wrap)
abbrev yi : Ty := .int .i64
abbrev y1 : Ty := .slice yi
abbrev y2 : Ty := .slice y1
abbrev y3 : Ty := .slice y2
abbrev Y1 : Type := List Int
abbrev Y2 : Type := List Y1
abbrev Y3 : Type := List Y2
abbrev yh (l : List Nat) (s : Sh) : Keep := { acts := [], S := { slots := l, sh := s, obs := [] } }
abbrev ys (l : List Nat) (s : Sh) : SSh := { slots := l, sh := s, obs := [] }
abbrev yd (A : Sh) (I : List (Nat × OSh)) (L : List LP) (R : Type) (F : A.I × OL I → Option R) (e : R → List AV × List (Nat × Ob)) : FD := { A := A, ins := I, lend := L, R := R, F := F, emb := e }
abbrev yr (r : List ResultVar) (s : Sh) : RetK := { acts := [], res := r, sh := s, obs := [], pins := [] }
abbrev yj : List Sh → Sh
  | [] => .nil
  | a :: l => .cons a (yj l)
noncomputable def tabl : List (Nat × TD) := [(3, .sc yi), (4, .sc .bool), (5, .sc (.int .u8)), (22, .sl 3 yi 8), (23, .sl 22 y1 24), (29, .st (.pair y1 y2) [(22, y1), (23, y2)]), (41, .sl 5 (.int .u8) 1), (44, .st (.pair (.pair y1 y2) (.pair y1 yi)) [(29, (.pair y1 y2)), (22, y1), (3, yi)]), (81, .sc (.int .u64)), (83, .st (.pair (.slice (.int .u8)) (.pair yi (.int .u64))) [(41, (.slice (.int .u8))), (3, yi), (81, (.int .u64))]), (102, .st (.pair yi (.pair yi (.pair yi (.pair yi y1)))) [(3, yi), (3, yi), (3, yi), (3, yi), (22, y1)])]
noncomputable def tt : Nat → TD := fun i => match look tabl i with
 | some d => d
 | none => .no
noncomputable def wasf (a1_ : Y1) : Tr (Bool) :=
 .l (decide ((65536 : Int) < ((length a1_ : Nat) : Int)))
noncomputable def wasg (a1_ : Y1) : Option (Bool) := (wasf a1_).ev
noncomputable def wbio : RetK := yr [.tmp 2] (yj [.dat .bool])
noncomputable def wash : FD := yd (yj [.dat (.slice (.int .u8))]) [] [] Bool (fun x => wasg x.1.1) (fun r => ([.dat .bool r], []))
noncomputable def wasi (a1_ : Y1) (a2_ : Int) (a3_ : Int) : Tr (Int × (Y1 × (Int × Int))) :=
 .t (decide (a2_ < ((length a1_ : Nat) : Int)))
 (.g (inR a2_ (length a1_)) <|
 .t (decide ((wrap .i64 (a2_ + 1)) ≤ ((length a1_ : Nat) : Int)))
 (.l ((wrap .i64 (getD a1_ (toNat a2_) 0)), (a1_, ((wrap .i64 (a2_ + 1)), (wrap .u64 ((wrap .u64 ((wrap .u64 (a3_ * (6364136223846793005 : Int))) + (wrap .u64 (wrap .i64 (getD a1_ (toNat a2_) 0))))) + 462197))))))
 (.g (decide ((0 : Int) ≤ (40 : Int))) <|
 .l ((wrap .i64 (wrap .u64 (BitVec.toNat ((BitVec.ofInt (IntKind.bits .u64) (Int.fdiv (wrap .u64 ((wrap .u64 ((wrap .u64 (a3_ * (6364136223846793005 : Int))) + (wrap .u64 (wrap .i64 (getD a1_ (toNat a2_) 0))))) + 462197)) (2 ^ (min (toNat 40) (IntKind.bits .u64))))) &&& (BitVec.ofInt (IntKind.bits .u64) (255 : Int)))))), (a1_, ((wrap .i64 (a2_ + 1)), (wrap .u64 ((wrap .u64 ((wrap .u64 (a3_ * (6364136223846793005 : Int))) + (wrap .u64 (wrap .i64 (getD a1_ (toNat a2_) 0))))) + 462197)))))))
 (.t (decide ((wrap .i64 (a2_ + 1)) ≤ ((length a1_ : Nat) : Int)))
 (.l ((0 : Int), (a1_, ((wrap .i64 (a2_ + 1)), (wrap .u64 ((wrap .u64 ((wrap .u64 (a3_ * (6364136223846793005 : Int))) + (wrap .u64 (0 : Int)))) + 462197))))))
 (.g (decide ((0 : Int) ≤ (40 : Int))) <|
 .l ((wrap .i64 (wrap .u64 (BitVec.toNat ((BitVec.ofInt (IntKind.bits .u64) (Int.fdiv (wrap .u64 ((wrap .u64 ((wrap .u64 (a3_ * (6364136223846793005 : Int))) + (wrap .u64 (0 : Int)))) + 462197)) (2 ^ (min (toNat 40) (IntKind.bits .u64))))) &&& (BitVec.ofInt (IntKind.bits .u64) (255 : Int)))))), (a1_, ((wrap .i64 (a2_ + 1)), (wrap .u64 ((wrap .u64 ((wrap .u64 (a3_ * (6364136223846793005 : Int))) + (wrap .u64 (0 : Int)))) + 462197)))))))
noncomputable def waes (a1_ : Y1) (a2_ : Int) (a3_ : Int) : Option (Int × (Y1 × (Int × Int))) := (wasi a1_ a2_ a3_).ev
noncomputable def wbip : RetK := { acts := [], res := [.tmp 2], sh := (yj [.dat yi]), obs := [(64, .cells (yj [.dat (.slice (.int .u8)), .dat yi, .dat (.int .u64)]))], pins := [(0, 0, 64)] }
noncomputable def wasj : FD := yd (yj [.box 64 0]) [(64, .cells (yj [.dat (.slice (.int .u8)), .dat yi, .dat (.int .u64)]))] [.arg 0] (Int × (Y1 × (Int × Int))) (fun x => waes x.2.1.1 x.2.1.2.1 x.2.1.2.2.1) (fun r => ([.dat yi r.1], [(64, .cells [.dat (.slice (.int .u8)) r.2.1, .dat yi r.2.2.1, .dat (.int .u64) r.2.2.2])]))
noncomputable def wask (a4_ : Int) (a1_ : Y1) (a2_ : Int) (a3_ : Int) : Tr (Int × (Y1 × (Int × Int))) :=
 .t (decide (a4_ ≤ 1))
 (.l ((0 : Int), (a1_, (a2_, a3_))))
 (.c (Int × (Y1 × (Int × Int))) (waes a1_ a2_ a3_) fun r1_ =>
 .t (decide (200 < a4_))
 (.c (Int × (Y1 × (Int × Int))) (waes r1_.2.1 r1_.2.2.1 r1_.2.2.2) fun r2_ =>
 .g (!decide (a4_ = 0)) <|
 .l ((Int.tmod (wrap .i64 ((wrap .i64 (r1_.1 * (256 : Int))) + r2_.1)) a4_), (r2_.2.1, (r2_.2.2.1, r2_.2.2.2))))
 (.g (!decide (a4_ = 0)) <|
 .l ((Int.tmod r1_.1 a4_), (r1_.2.1, (r1_.2.2.1, r1_.2.2.2)))))
noncomputable def wal (a4_ : Int) (a1_ : Y1) (a2_ : Int) (a3_ : Int) : Option (Int × (Y1 × (Int × Int))) := (wask a4_ a1_ a2_ a3_).ev
noncomputable def wbiq : RetK := { acts := [], res := [.tmp 4], sh := (yj [.dat yi]), obs := [(64, .cells (yj [.dat (.slice (.int .u8)), .dat yi, .dat (.int .u64)]))], pins := [(0, 0, 64)] }
noncomputable def wmo : FD := yd (yj [.box 64 0, .dat yi]) [(64, .cells (yj [.dat (.slice (.int .u8)), .dat yi, .dat (.int .u64)]))] [.arg 0] (Int × (Y1 × (Int × Int))) (fun x => wal x.1.2.1 x.2.1.1 x.2.1.2.1 x.2.1.2.2.1) (fun r => ([.dat yi r.1], [(64, .cells [.dat (.slice (.int .u8)) r.2.1, .dat yi r.2.2.1, .dat (.int .u64) r.2.2.2])]))
noncomputable def wasl (a4_ : Y1) (a1_ : Y1) (a2_ : Int) (a3_ : Int) : Tr (Int × (Y1 × (Int × Int))) :=
 .c (Int × (Y1 × (Int × Int))) (wal ((length a4_ : Nat) : Int) a1_ a2_ a3_) fun r1_ =>
 .g (inR r1_.1 (length a4_)) <|
 .l ((getD a4_ (toNat r1_.1) 0), (r1_.2.1, (r1_.2.2.1, r1_.2.2.2)))
noncomputable def wad (a4_ : Y1) (a1_ : Y1) (a2_ : Int) (a3_ : Int) : Option (Int × (Y1 × (Int × Int))) := (wasl a4_ a1_ a2_ a3_).ev
noncomputable def wbir : RetK := { acts := [], res := [.tmp 4], sh := (yj [.dat yi]), obs := [(64, .cells (yj [.dat (.slice (.int .u8)), .dat yi, .dat (.int .u64)]))], pins := [(0, 0, 64)] }
noncomputable def wvf : FD := yd (yj [.box 64 0, .dat y1]) [(64, .cells (yj [.dat (.slice (.int .u8)), .dat yi, .dat (.int .u64)]))] [.arg 0] (Int × (Y1 × (Int × Int))) (fun x => wad x.1.2.1 x.2.1.1 x.2.1.2.1 x.2.1.2.2.1) (fun r => ([.dat yi r.1], [(64, .cells [.dat (.slice (.int .u8)) r.2.1, .dat yi r.2.2.1, .dat (.int .u64) r.2.2.2])]))
noncomputable def wjg (k : Int × (Int × (Int × (Int × Y1)))) (v : Int × (Y1 × (Int × (Int × Y1)))) : Tr ((Int × (Y1 × (Int × (Int × Y1)))) ⊕ (Y1 × (Int × (Int × Y1)))) :=
 .t (decide (v.1 < k.2.1))
 (.t (decide (v.1 < k.1))
 (.c (Int × (Y1 × (Int × Int))) (wal k.2.2.2.1 v.2.1 v.2.2.1 v.2.2.2.1) fun r14_ =>
 .g (decide ((length v.2.2.2.2 + length ([r14_.1] : Y1)) * 8 ≤ 140737488355328)) <|
 .l (.inl ((wrap .i64 (v.1 + 1)), (r14_.2.1, (r14_.2.2.1, (r14_.2.2.2, (v.2.2.2.2 ++ ([r14_.1] : Y1))))))))
 (.l (.inr (v.2.1, (v.2.2.1, (v.2.2.2.1, v.2.2.2.2))))))
 (.l (.inr (v.2.1, (v.2.2.1, (v.2.2.2.1, v.2.2.2.2)))))
noncomputable def waet (k : Int × (Int × (Int × (Int × Y1)))) (v : Int × (Y1 × (Int × (Int × Y1)))) : Option (Y1 × (Int × (Int × Y1))) := iter (fun v => (wjg k v).ev) v
noncomputable def wxm : LD := ⟨{ acts := [.ownB 4 0 900340 3 yi, .ownB 7 0 900370 3 yi], S := { slots := [0, 1, 4, 5, 6, 7, 8, 9], sh := (yj [.box 64 0, .dat yi, .box 4 0, .dat yi, .dat yi, .box 7 0, .dat yi, .dat yi]), obs := [(64, .cells (yj [.dat (.slice (.int .u8)), .dat yi, .dat (.int .u64)])), (4, .cells (yj [.arr 900340, .nilsl])), (7, .cells (yj [.arr 900370, .nilsl])), (900340, .arr 3 yi), (900370, .arr 3 yi)] } }, [(0, { acts := [], S := { slots := [0, 1, 4, 6, 7, 8], sh := (yj [.box 64 0, .dat yi, .box 4 0, .dat yi, .box 7 0, .dat yi]), obs := [(64, .cells (yj [.dat (.slice (.int .u8)), .dat yi, .dat (.int .u64)])), (4, .cells (yj [.arr 900340, .nilsl])), (7, .cells (yj [.arr 900370, .nilsl])), (900340, .arr 3 yi), (900370, .arr 3 yi)] } })], (yh [] .nil), Int × (Int × (Int × (Int × Y1))), Int × (Y1 × (Int × (Int × Y1))), Y1 × (Int × (Int × Y1)), fun k v => (((), (k.1, ((), (k.2.1, (k.2.2.1, ((), (k.2.2.2.1, (v.1, ())))))))), ((v.2.1, (v.2.2.1, (v.2.2.2.1, ()))), (((), ((), ())), (((), ((), ())), (k.2.2.2.2, (v.2.2.2.2, ())))))), fun t => (t.1.2.1, (t.1.2.2.2.1, (t.1.2.2.2.2.1, (t.1.2.2.2.2.2.2.1, t.2.2.2.2.1)))), fun t => (t.1.2.2.2.2.2.2.2.1, (t.2.1.1, (t.2.1.2.1, (t.2.1.2.2.1, t.2.2.2.2.2.1)))), wjg, fun k r => .l (.exit 0 (wbe ({ slots := [0, 1, 4, 6, 7, 8], sh := (yj [.box 64 0, .dat yi, .box 4 0, .dat yi, .box 7 0, .dat yi]), obs := [(64, .cells (yj [.dat (.slice (.int .u8)), .dat yi, .dat (.int .u64)])), (4, .cells (yj [.arr 900340, .nilsl])), (7, .cells (yj [.arr 900370, .nilsl])), (900340, .arr 3 yi), (900370, .arr 3 yi)] }) (((), (k.1, ((), (k.2.2.1, ((), (k.2.2.2.1, ())))))), ((r.1, (r.2.1, (r.2.2.1, ()))), (((), ((), ())), (((), ((), ())), (k.2.2.2.2, (r.2.2.2, ()))))))))⟩
noncomputable def wmp (k : Int × (Int × (Int × (Int × (Y1 × (Y2 × (Y1 × Y2))))))) (v : Int × (Y1 × (Int × (Int × Y1)))) : Tr ((Int × (Y1 × (Int × (Int × Y1)))) ⊕ (Y1 × (Int × (Int × Y1)))) :=
 .t (decide (v.1 < ((length k.2.2.2.2.2.2.1 : Nat) : Int)))
 (.c (Int × (Y1 × (Int × Int))) (wal k.2.2.1 v.2.1 v.2.2.1 v.2.2.2.1) fun r48_ =>
 .g (decide ((length v.2.2.2.2 + length ([r48_.1] : Y1)) * 8 ≤ 140737488355328)) <|
 .l (.inl ((wrap .i64 (v.1 + 1)), (r48_.2.1, (r48_.2.2.1, (r48_.2.2.2, (v.2.2.2.2 ++ ([r48_.1] : Y1))))))))
 (.l (.inr (v.2.1, (v.2.2.1, (v.2.2.2.1, v.2.2.2.2)))))
noncomputable def waeu (k : Int × (Int × (Int × (Int × (Y1 × (Y2 × (Y1 × Y2))))))) (v : Int × (Y1 × (Int × (Int × Y1)))) : Option (Y1 × (Int × (Int × Y1))) := iter (fun v => (wmp k v).ev) v
noncomputable def wxn : LD := ⟨{ acts := [], S := { slots := [0, 1, 4, 6, 7, 8, 10, 11, 12], sh := (yj [.box 64 0, .dat yi, .box 4 0, .dat yi, .box 7 0, .dat yi, .dat yi, .arr 51, .dat yi]), obs := [(64, .cells (yj [.dat (.slice (.int .u8)), .dat yi, .dat (.int .u64)])), (4, .cells (yj [.arr 900340, .arr 902341])), (7, .cells (yj [.arr 900370, .arr 902371])), (51, .arr 3 yi), (900340, .arr 3 yi), (902341, .rows 22 3 yi), (900370, .arr 3 yi), (902371, .rows 22 3 yi)] } }, [(4, { acts := [], S := { slots := [0, 1, 4, 6, 7, 8, 10, 11], sh := (yj [.box 64 0, .dat yi, .box 4 0, .dat yi, .box 7 0, .dat yi, .dat yi, .arr 51]), obs := [(64, .cells (yj [.dat (.slice (.int .u8)), .dat yi, .dat (.int .u64)])), (4, .cells (yj [.arr 900340, .arr 902341])), (7, .cells (yj [.arr 900370, .arr 902371])), (51, .arr 3 yi), (900340, .arr 3 yi), (902341, .rows 22 3 yi), (900370, .arr 3 yi), (902371, .rows 22 3 yi)] } })], (yh [] .nil), Int × (Int × (Int × (Int × (Y1 × (Y2 × (Y1 × Y2)))))), Int × (Y1 × (Int × (Int × Y1))), Y1 × (Int × (Int × Y1)), fun k v => (((), (k.1, ((), (k.2.1, ((), (k.2.2.1, (k.2.2.2.1, ((), (v.1, ()))))))))), ((v.2.1, (v.2.2.1, (v.2.2.2.1, ()))), (((), ((), ())), (((), ((), ())), (v.2.2.2.2, (k.2.2.2.2.1, (k.2.2.2.2.2.1, (k.2.2.2.2.2.2.1, (k.2.2.2.2.2.2.2, ()))))))))), fun t => (t.1.2.1, (t.1.2.2.2.1, (t.1.2.2.2.2.2.1, (t.1.2.2.2.2.2.2.1, (t.2.2.2.2.2.1, (t.2.2.2.2.2.2.1, (t.2.2.2.2.2.2.2.1, t.2.2.2.2.2.2.2.2.1))))))), fun t => (t.1.2.2.2.2.2.2.2.2.1, (t.2.1.1, (t.2.1.2.1, (t.2.1.2.2.1, t.2.2.2.2.1)))), wmp, fun k r => .l (.exit 4 (wbe ({ slots := [0, 1, 4, 6, 7, 8, 10, 11], sh := (yj [.box 64 0, .dat yi, .box 4 0, .dat yi, .box 7 0, .dat yi, .dat yi, .arr 51]), obs := [(64, .cells (yj [.dat (.slice (.int .u8)), .dat yi, .dat (.int .u64)])), (4, .cells (yj [.arr 900340, .arr 902341])), (7, .cells (yj [.arr 900370, .arr 902371])), (51, .arr 3 yi), (900340, .arr 3 yi), (902341, .rows 22 3 yi), (900370, .arr 3 yi), (902371, .rows 22 3 yi)] }) (((), (k.1, ((), (k.2.1, ((), (k.2.2.1, (k.2.2.2.1, ((), ())))))))), ((r.1, (r.2.1, (r.2.2.1, ()))), (((), ((), ())), (((), ((), ())), (r.2.2.2, (k.2.2.2.2.1, (k.2.2.2.2.2.1, (k.2.2.2.2.2.2.1, (k.2.2.2.2.2.2.2, ())))))))))))⟩
noncomputable def wjh (k : Int × (Int × (Int × (Y1 × (Y2 × Y1))))) (v : Int × (Y1 × (Int × (Int × Y2)))) : Tr ((Int × (Y1 × (Int × (Int × Y2)))) ⊕ (Y1 × (Int × (Int × Y2)))) :=
 .t (decide (v.1 < k.2.1))
 (.t (decide (v.1 < k.1))
 (.c (Y1 × (Int × (Int × Y1))) (waeu (k.1, (k.2.1, (k.2.2.1, (v.1, (k.2.2.2.1, (k.2.2.2.2.1, (k.2.2.2.2.2, v.2.2.2.2))))))) ((0 : Int), (v.2.1, (v.2.2.1, (v.2.2.2.1, ([] : Y1)))))) fun r61_ =>
 .g (decide ((length v.2.2.2.2 + 1) * 24 ≤ 140737488355328)) <|
 .l (.inl ((wrap .i64 (v.1 + 1)), (r61_.1, (r61_.2.1, (r61_.2.2.1, (set (v.2.2.2.2 ++ [[]]) (length v.2.2.2.2) r61_.2.2.2)))))))
 (.l (.inr (v.2.1, (v.2.2.1, (v.2.2.2.1, v.2.2.2.2))))))
 (.l (.inr (v.2.1, (v.2.2.1, (v.2.2.2.1, v.2.2.2.2)))))
noncomputable def waev (k : Int × (Int × (Int × (Y1 × (Y2 × Y1))))) (v : Int × (Y1 × (Int × (Int × Y2)))) : Option (Y1 × (Int × (Int × Y2))) := iter (fun v => (wjh k v).ev) v
noncomputable def wxo : LD := ⟨{ acts := [.ownRB 4 1 902341 22 3 yi, .ownRB 7 1 902371 22 3 yi], S := { slots := [0, 1, 4, 6, 7, 8, 10], sh := (yj [.box 64 0, .dat yi, .box 4 0, .dat yi, .box 7 0, .dat yi, .dat yi]), obs := [(64, .cells (yj [.dat (.slice (.int .u8)), .dat yi, .dat (.int .u64)])), (4, .cells (yj [.arr 900340, .arr 902341])), (7, .cells (yj [.arr 900370, .arr 902371])), (900340, .arr 3 yi), (902341, .rows 22 3 yi), (900370, .arr 3 yi), (902371, .rows 22 3 yi)] } }, [(2, { acts := [], S := { slots := [0, 4, 7], sh := (yj [.box 64 0, .box 4 0, .box 7 0]), obs := [(64, .cells (yj [.dat (.slice (.int .u8)), .dat yi, .dat (.int .u64)])), (4, .cells (yj [.arr 900340, .arr 902341])), (7, .cells (yj [.arr 900370, .arr 902371])), (900340, .arr 3 yi), (902341, .rows 22 3 yi), (900370, .arr 3 yi), (902371, .rows 22 3 yi)] } })], (yh [] .nil), Int × (Int × (Int × (Y1 × (Y2 × Y1)))), Int × (Y1 × (Int × (Int × Y2))), Y1 × (Int × (Int × Y2)), fun k v => (((), (k.1, ((), (k.2.1, ((), (k.2.2.1, (v.1, ()))))))), ((v.2.1, (v.2.2.1, (v.2.2.2.1, ()))), (((), ((), ())), (((), ((), ())), (k.2.2.2.1, (k.2.2.2.2.1, (k.2.2.2.2.2, (v.2.2.2.2, ())))))))), fun t => (t.1.2.1, (t.1.2.2.2.1, (t.1.2.2.2.2.2.1, (t.2.2.2.2.1, (t.2.2.2.2.2.1, t.2.2.2.2.2.2.1))))), fun t => (t.1.2.2.2.2.2.2.1, (t.2.1.1, (t.2.1.2.1, (t.2.1.2.2.1, t.2.2.2.2.2.2.2.1)))), wjh, fun k r => .l (.exit 2 (wbe ({ slots := [0, 4, 7], sh := (yj [.box 64 0, .box 4 0, .box 7 0]), obs := [(64, .cells (yj [.dat (.slice (.int .u8)), .dat yi, .dat (.int .u64)])), (4, .cells (yj [.arr 900340, .arr 902341])), (7, .cells (yj [.arr 900370, .arr 902371])), (900340, .arr 3 yi), (902341, .rows 22 3 yi), (900370, .arr 3 yi), (902371, .rows 22 3 yi)] }) (((), ((), ((), ()))), ((r.1, (r.2.1, (r.2.2.1, ()))), (((), ((), ())), (((), ((), ())), (k.2.2.2.1, (k.2.2.2.2.1, (k.2.2.2.2.2, (r.2.2.2, ()))))))))))⟩
noncomputable def wasm (a4_ : Int) (a1_ : Y1) (a2_ : Int) (a3_ : Int) : Tr (Y1 × (Y2 × (Y1 × (Int × Int)))) :=
 .c (Int × (Y1 × (Int × Int))) (wad ([(3 : Int), (4 : Int), (2 : Int), (5 : Int), (1 : Int), (6 : Int), (7 : Int)] : Y1) a1_ a2_ a3_) fun r1_ =>
 .c (Int × (Y1 × (Int × Int))) (wad ([(4 : Int), (3 : Int), (5 : Int), (2 : Int), (6 : Int), (7 : Int), (1 : Int), (0 : Int)] : Y1) r1_.2.1 r1_.2.2.1 r1_.2.2.2) fun r2_ =>
 .c (Int × (Y1 × (Int × Int))) (wad ([(10 : Int), (10 : Int), (20 : Int), (4 : Int)] : Y1) r2_.2.1 r2_.2.2.1 r2_.2.2.2) fun r3_ =>
 .c (Y1 × (Int × (Int × Y1))) (waet (a4_, (r1_.1, (r2_.1, (r3_.1, ([] : Y1))))) ((0 : Int), (r3_.2.1, (r3_.2.2.1, (r3_.2.2.2, ([] : Y1)))))) fun r23_ =>
 .c (Y1 × (Int × (Int × Y2))) (waev (a4_, (r2_.1, (r3_.1, (([] : Y1), (([] : List Y1), r23_.2.2.2))))) ((0 : Int), (r23_.1, (r23_.2.1, (r23_.2.2.1, ([] : List Y1)))))) fun r69_ =>
 .l (r23_.2.2.2, (r69_.2.2.2, (r69_.1, (r69_.2.1, r69_.2.2.1))))
noncomputable def wabd (a4_ : Int) (a1_ : Y1) (a2_ : Int) (a3_ : Int) : Option (Y1 × (Y2 × (Y1 × (Int × Int)))) := (wasm a4_ a1_ a2_ a3_).ev
noncomputable def wbis : RetK := { acts := [.ren 900370 1, .ren 902371 2], res := [.cell 4 29], sh := (yj [.agg (yj [.arr 1, .arr 2])]), obs := [(1, .arr 3 yi), (2, .rows 22 3 yi), (64, .cells (yj [.dat (.slice (.int .u8)), .dat yi, .dat (.int .u64)]))], pins := [(0, 0, 64)] }
noncomputable def waly : FD := yd (yj [.box 64 0, .dat yi]) [(64, .cells (yj [.dat (.slice (.int .u8)), .dat yi, .dat (.int .u64)]))] [.arg 0] (Y1 × (Y2 × (Y1 × (Int × Int)))) (fun x => wabd x.1.2.1 x.2.1.1 x.2.1.2.1 x.2.1.2.2.1) (fun r => ([.agg [.arr 1, .arr 2]], [(1, .arr 3 yi r.1), (2, .rows 22 3 yi r.2.1 none), (64, .cells [.dat (.slice (.int .u8)) r.2.2.1, .dat yi r.2.2.2.1, .dat (.int .u64) r.2.2.2.2])]))
noncomputable def waew : Nat → Nat → List Nat := fun r i => match look [(1, [(2, [14]), (5, [17])]), (2, [(3, [21])])] r with
 | some l => (look l i).getD []
 | none => []
noncomputable def waex : Env := wac [(101, wvf), (98, wmo)]
noncomputable def waey : List (Nat × LD) := [(0, wxm), (4, wxn), (2, wxo)]
noncomputable def waez : Code := (f118.body).getD .skip
noncomputable def walz (a1_ : Y1) : Tr Y1 :=
 .g (decide ((length ([] : Y1) + length a1_) * 8 ≤ 140737488355328)) <|
 .l (([] : Y1) ++ a1_)
noncomputable def wgt (a1_ : Y1) : Option Y1 := (walz a1_).ev
noncomputable def wbit : RetK := { acts := [.ren 3 0], res := [.tmp 2], sh := (yj [.arr 0]), obs := [(0, .arr 3 yi)], pins := [] }
noncomputable def wsw : FD := yd (yj [.dat y1]) [] [] Y1 (fun x => wgt x.1.1) (fun r => ([.arr 0], [(0, .arr 3 yi r)]))
noncomputable def wmq (k : Y1 × (Int × (Int × (Y1 × Y2)))) (v : List Y1) : Tr (Y2 ⊕ Y2) :=
 .t (decide (((length v : Nat) : Int) < (8 : Int)))
 (.c Y1 (wgt k.2.2.2.1) fun r11_ =>
 .g (decide ((length v + 1) * 24 ≤ 140737488355328)) <|
 .l (.inl (set (v ++ [[]]) (length v) r11_)))
 (.l (.inr v))
noncomputable def wafa (k : Y1 × (Int × (Int × (Y1 × Y2)))) (v : List Y1) : Option Y2 := iter (fun v => (wmq k v).ev) v
noncomputable def wxp : LD := ⟨{ acts := [.ownRB 4 1 901341 22 3 yi], S := { slots := [0, 3, 4], sh := (yj [.box 64 0, .box 3 0, .box 4 0]), obs := [(64, .cells (yj [.dat (.slice (.int .u8)), .dat yi, .dat (.int .u64)])), (3, .cells (yj [.arr 65, .arr 66])), (4, .cells (yj [.nilsl, .arr 901341])), (65, .arr 3 yi), (66, .rows 22 3 yi), (901341, .rows 22 3 yi)] } }, [(1, { acts := [], S := { slots := [0, 3, 4], sh := (yj [.box 64 0, .box 3 0, .box 4 0]), obs := [(64, .cells (yj [.dat (.slice (.int .u8)), .dat yi, .dat (.int .u64)])), (3, .cells (yj [.arr 65, .arr 66])), (4, .cells (yj [.nilsl, .arr 901341])), (65, .arr 3 yi), (66, .rows 22 3 yi), (901341, .rows 22 3 yi)] } })], (yh [] .nil), Y1 × (Int × (Int × (Y1 × Y2))), List Y1, List Y1, fun k v => (((), ((), ((), ()))), ((k.1, (k.2.1, (k.2.2.1, ()))), (((), ((), ())), (((), ((), ())), (k.2.2.2.1, (v, (k.2.2.2.2, ()))))))), fun t => (t.2.1.1, (t.2.1.2.1, (t.2.1.2.2.1, (t.2.2.2.2.1, t.2.2.2.2.2.2.1)))), fun t => t.2.2.2.2.2.1, wmq, fun k r => .l (.exit 1 (wbe ({ slots := [0, 3, 4], sh := (yj [.box 64 0, .box 3 0, .box 4 0]), obs := [(64, .cells (yj [.dat (.slice (.int .u8)), .dat yi, .dat (.int .u64)])), (3, .cells (yj [.arr 65, .arr 66])), (4, .cells (yj [.nilsl, .arr 901341])), (65, .arr 3 yi), (66, .rows 22 3 yi), (901341, .rows 22 3 yi)] }) (((), ((), ((), ()))), ((k.1, (k.2.1, (k.2.2.1, ()))), (((), ((), ())), (((), ((), ())), (k.2.2.2.1, (r, (k.2.2.2.2, ())))))))))⟩
noncomputable def wasn (a1_ : Y1) (a2_ : Int) (a3_ : Int) (a4_ : Y1) (a5_ : List Y1) : Tr (Y1 × (Y2 × (Y1 × (Int × Int)))) :=
 .t (((length a4_ : Nat) : Int) == (0 : Int))
 (.l (a4_, (a5_, (a1_, (a2_, a3_)))))
 (.c (Int × (Y1 × (Int × Int))) (wal ((length a4_ : Nat) : Int) a1_ a2_ a3_) fun r1_ =>
 .c (Int × (Y1 × (Int × Int))) (wal (60 : Int) r1_.2.1 r1_.2.2.1 r1_.2.2.2) fun r2_ =>
 .t (r2_.1 == 0)
 (.c (Int × (Y1 × (Int × Int))) (wad ([(-1 : Int), (99 : Int), (100 : Int), (4611686018427387904 : Int)] : Y1) r2_.2.1 r2_.2.2.1 r2_.2.2.2) fun r3_ =>
 .g (inR r1_.1 (length a4_)) <|
 .g (decide ((toNat r1_.1) < length a4_)) <|
 .l ((set a4_ (toNat r1_.1) r3_.1), (a5_, (r3_.2.1, (r3_.2.2.1, r3_.2.2.2)))))
 (.t (r2_.1 == 1)
 (.t (decide ((0 : Int) < ((length a5_ : Nat) : Int)))
 (.g (inR 0 (length a5_)) <|
 .g (decide ((toNat 0) < length a5_)) <|
 .c (Int × (Y1 × (Int × Int))) (wad ([(-1 : Int), (99 : Int), (100 : Int), (-9223372036854775808 : Int)] : Y1) r2_.2.1 r2_.2.2.1 r2_.2.2.2) fun r4_ =>
 .g (inR r1_.1 (length (getD a5_ (toNat 0) ([] : Y1)))) <|
 .g (decide ((toNat r1_.1) < length (getD a5_ (toNat 0) ([] : Y1)))) <|
 .l (a4_, ((set a5_ (toNat 0) (set (getD a5_ (toNat 0) ([] : Y1)) (toNat r1_.1) r4_.1)), (r4_.2.1, (r4_.2.2.1, r4_.2.2.2)))))
 (.l (a4_, (a5_, (r2_.2.1, (r2_.2.2.1, r2_.2.2.2))))))
 (.t (r2_.1 == 2)
 (.g (decide ((length a4_ + length ([(1 : Int)] : Y1)) * 8 ≤ 140737488355328)) <|
 .l ((a4_ ++ ([(1 : Int)] : Y1)), (a5_, (r2_.2.1, (r2_.2.2.1, r2_.2.2.2)))))
 (.t (r2_.1 == 3)
 (.c Y2 (wafa (r2_.2.1, (r2_.2.2.1, (r2_.2.2.2, (a4_, ([] : List Y1))))) a5_) fun r18_ =>
 .l (a4_, (r18_, (r2_.2.1, (r2_.2.2.1, r2_.2.2.2)))))
 (.t (r2_.1 == 4)
 (.l (([] : Y1), (([] : List Y1), (r2_.2.1, (r2_.2.2.1, r2_.2.2.2)))))
 (.l (a4_, (a5_, (r2_.2.1, (r2_.2.2.1, r2_.2.2.2))))))))))
noncomputable def wabe (a1_ : Y1) (a2_ : Int) (a3_ : Int) (a4_ : Y1) (a5_ : List Y1) : Option (Y1 × (Y2 × (Y1 × (Int × Int)))) := (wasn a1_ a2_ a3_ a4_ a5_).ev
noncomputable def wbiu : RetK := { acts := [.ownB 4 0 1 3 yi, .ownRB 4 1 2 22 3 yi, .ren 65 1, .ren 66 2], res := [.cell 4 29], sh := (yj [.agg (yj [.arr 1, .arr 2])]), obs := [(1, .arr 3 yi), (2, .rows 22 3 yi), (64, .cells (yj [.dat (.slice (.int .u8)), .dat yi, .dat (.int .u64)]))], pins := [(0, 0, 64)], gone := [65, 66] }
noncomputable def waso : FD := yd (yj [.box 64 0, .agg (yj [.arr 65, .arr 66])]) [(64, .cells (yj [.dat (.slice (.int .u8)), .dat yi, .dat (.int .u64)])), (65, .arr 3 yi), (66, .rows 22 3 yi)] [.arg 0, .comp 1 0, .comp 1 1] (Y1 × (Y2 × (Y1 × (Int × Int)))) (fun x => wabe x.2.1.1 x.2.1.2.1 x.2.1.2.2.1 x.2.2.1 x.2.2.2.1) (fun r => ([.agg [.arr 1, .arr 2]], [(1, .arr 3 yi r.1), (2, .rows 22 3 yi r.2.1 none), (64, .cells [.dat (.slice (.int .u8)) r.2.2.1, .dat yi r.2.2.2.1, .dat (.int .u64) r.2.2.2.2]), (65, .spent), (66, .spent)]))
noncomputable def wasp : Nat → Nat → List Nat := fun r i => match look [(6, [(0, [60000004])]), (9, [(0, [60000006])])] r with
 | some l => (look l i).getD []
 | none => []
noncomputable def wasq : Env := wac [(98, wmo), (101, wvf), (140, wsw)]
noncomputable def wasr : List (Nat × LD) := [(1, wxp)]
noncomputable def wass : Code := (f117.body).getD .skip
noncomputable def wast (a1_ : Int) (a2_ : Int) : Tr (Int) :=
 .t (decide (a2_ < a1_))
 (.l a1_)
 (.l a2_)
noncomputable def wvg (a1_ : Int) (a2_ : Int) : Option (Int) := (wast a1_ a2_).ev
noncomputable def wbiv : RetK := yr [.tmp 4] (yj [.dat yi])
noncomputable def wafb : FD := yd (yj [.dat yi, .dat yi]) [] [] Int (fun x => wvg x.1.1 x.1.2.1) (fun r => ([.dat yi r], []))
noncomputable def wmr (k : Y1 × Y2) (v : Int × (Y1 × (Int × (Int × Y1)))) : Tr ((Int × (Y1 × (Int × (Int × Y1)))) ⊕ (Y1 × (Int × (Int × Y1)))) :=
 .t (decide (v.1 < ((length k.1 : Nat) : Int)))
 (.c (Int × (Y1 × (Int × Int))) (wal (20 : Int) v.2.1 v.2.2.1 v.2.2.2.1) fun r9_ =>
 .g (decide ((length v.2.2.2.2 + length ([r9_.1] : Y1)) * 8 ≤ 140737488355328)) <|
 .l (.inl ((wrap .i64 (v.1 + 1)), (r9_.2.1, (r9_.2.2.1, (r9_.2.2.2, (v.2.2.2.2 ++ ([r9_.1] : Y1))))))))
 (.l (.inr (v.2.1, (v.2.2.1, (v.2.2.2.1, v.2.2.2.2)))))
noncomputable def wafc (k : Y1 × Y2) (v : Int × (Y1 × (Int × (Int × Y1)))) : Option (Y1 × (Int × (Int × Y1))) := iter (fun v => (wmr k v).ev) v
noncomputable def wxq : LD := ⟨{ acts := [], S := { slots := [0, 4, 5, 6, 7], sh := (yj [.box 64 0, .box 4 0, .box 5 0, .arr 14, .dat yi]), obs := [(64, .cells (yj [.dat (.slice (.int .u8)), .dat yi, .dat (.int .u64)])), (4, .cells (yj [.nilsl, .nilsl])), (5, .cells (yj [.arr 833, .arr 834])), (14, .arr 3 yi), (833, .arr 3 yi), (834, .rows 22 3 yi)] } }, [(0, { acts := [], S := { slots := [0, 4, 5, 6], sh := (yj [.box 64 0, .box 4 0, .box 5 0, .arr 14]), obs := [(64, .cells (yj [.dat (.slice (.int .u8)), .dat yi, .dat (.int .u64)])), (4, .cells (yj [.nilsl, .nilsl])), (5, .cells (yj [.arr 833, .arr 834])), (14, .arr 3 yi), (833, .arr 3 yi), (834, .rows 22 3 yi)] } })], (yh [] .nil), Y1 × Y2, Int × (Y1 × (Int × (Int × Y1))), Y1 × (Int × (Int × Y1)), fun k v => (((), ((), ((), ((), (v.1, ()))))), ((v.2.1, (v.2.2.1, (v.2.2.2.1, ()))), (((), ((), ())), (((), ((), ())), (v.2.2.2.2, (k.1, (k.2, ()))))))), fun t => (t.2.2.2.2.2.1, t.2.2.2.2.2.2.1), fun t => (t.1.2.2.2.2.1, (t.2.1.1, (t.2.1.2.1, (t.2.1.2.2.1, t.2.2.2.2.1)))), wmr, fun k r => .l (.exit 0 (wbe ({ slots := [0, 4, 5, 6], sh := (yj [.box 64 0, .box 4 0, .box 5 0, .arr 14]), obs := [(64, .cells (yj [.dat (.slice (.int .u8)), .dat yi, .dat (.int .u64)])), (4, .cells (yj [.nilsl, .nilsl])), (5, .cells (yj [.arr 833, .arr 834])), (14, .arr 3 yi), (833, .arr 3 yi), (834, .rows 22 3 yi)] }) (((), ((), ((), ((), ())))), ((r.1, (r.2.1, (r.2.2.1, ()))), (((), ((), ())), (((), ((), ())), (r.2.2.2, (k.1, (k.2, ())))))))))⟩
noncomputable def wms (k : Int × (Int × (Y1 × (Int × (Int × (Y1 × Y1)))))) (v : Int × Y2) : Tr ((Int × Y2) ⊕ Y2) :=
 .t (decide (v.1 < ((length k.2.2.2.2.2.2 : Nat) : Int)))
 (.g (inR k.1 (length v.2)) <|
 .g (decide ((toNat k.1) < length v.2)) <|
 .g (inR v.1 (length k.2.2.2.2.2.1)) <|
 .g (decide ((toNat v.1) < length k.2.2.2.2.2.1)) <|
 .g (inR v.1 (length k.2.2.2.2.2.1)) <|
 .g (decide ((toNat v.1) < length k.2.2.2.2.2.1)) <|
 .c (Int) (wvg (wrap .i64 (k.2.1 - (getD k.2.2.2.2.2.1 (toNat v.1) 0))) (wrap .i64 ((getD k.2.2.2.2.2.1 (toNat v.1) 0) - k.2.1))) fun r34_ =>
 .g (inR v.1 (length (getD v.2 (toNat k.1) ([] : Y1)))) <|
 .g (decide ((toNat v.1) < length (getD v.2 (toNat k.1) ([] : Y1)))) <|
 .l (.inl ((wrap .i64 (v.1 + 1)), (set v.2 (toNat k.1) (set (getD v.2 (toNat k.1) ([] : Y1)) (toNat v.1) r34_)))))
 (.l (.inr v.2))
noncomputable def wafd (k : Int × (Int × (Y1 × (Int × (Int × (Y1 × Y1)))))) (v : Int × Y2) : Option Y2 := iter (fun v => (wms k v).ev) v
noncomputable def wxr : LD := ⟨{ acts := [], S := { slots := [0, 4, 5, 6, 8, 9, 10], sh := (yj [.box 64 0, .box 4 0, .box 5 0, .arr 14, .dat yi, .dat yi, .dat yi]), obs := [(64, .cells (yj [.dat (.slice (.int .u8)), .dat yi, .dat (.int .u64)])), (4, .cells (yj [.nilsl, .nilsl])), (5, .cells (yj [.arr 833, .arr 834])), (14, .arr 3 yi), (833, .arr 3 yi), (834, .rows 22 3 yi)] } }, [(4, { acts := [], S := { slots := [0, 4, 5, 6, 8], sh := (yj [.box 64 0, .box 4 0, .box 5 0, .arr 14, .dat yi]), obs := [(64, .cells (yj [.dat (.slice (.int .u8)), .dat yi, .dat (.int .u64)])), (4, .cells (yj [.nilsl, .nilsl])), (5, .cells (yj [.arr 833, .arr 834])), (14, .arr 3 yi), (833, .arr 3 yi), (834, .rows 22 3 yi)] } })], (yh [] .nil), Int × (Int × (Y1 × (Int × (Int × (Y1 × Y1))))), Int × Y2, List Y1, fun k v => (((), ((), ((), ((), (k.1, (k.2.1, (v.1, ()))))))), ((k.2.2.1, (k.2.2.2.1, (k.2.2.2.2.1, ()))), (((), ((), ())), (((), ((), ())), (k.2.2.2.2.2.1, (k.2.2.2.2.2.2, (v.2, ()))))))), fun t => (t.1.2.2.2.2.1, (t.1.2.2.2.2.2.1, (t.2.1.1, (t.2.1.2.1, (t.2.1.2.2.1, (t.2.2.2.2.1, t.2.2.2.2.2.1)))))), fun t => (t.1.2.2.2.2.2.2.1, t.2.2.2.2.2.2.1), wms, fun k r => .l (.exit 4 (wbe ({ slots := [0, 4, 5, 6, 8], sh := (yj [.box 64 0, .box 4 0, .box 5 0, .arr 14, .dat yi]), obs := [(64, .cells (yj [.dat (.slice (.int .u8)), .dat yi, .dat (.int .u64)])), (4, .cells (yj [.nilsl, .nilsl])), (5, .cells (yj [.arr 833, .arr 834])), (14, .arr 3 yi), (833, .arr 3 yi), (834, .rows 22 3 yi)] }) (((), ((), ((), ((), (k.1, ()))))), ((k.2.2.1, (k.2.2.2.1, (k.2.2.2.2.1, ()))), (((), ((), ())), (((), ((), ())), (k.2.2.2.2.2.1, (k.2.2.2.2.2.2, (r, ())))))))))⟩
noncomputable def wmt (k : Y1 × Y1) (v : Int × (Y1 × (Int × (Int × Y2)))) : Tr ((Int × (Y1 × (Int × (Int × Y2)))) ⊕ (Y1 × (Int × (Int × Y2)))) :=
 .t (decide (v.1 < ((length v.2.2.2.2 : Nat) : Int)))
 (.c (Int × (Y1 × (Int × Int))) (wal (20 : Int) v.2.1 v.2.2.1 v.2.2.2.1) fun r24_ =>
 .c Y2 (wafd (v.1, (r24_.1, (r24_.2.1, (r24_.2.2.1, (r24_.2.2.2, (k.1, k.2)))))) ((0 : Int), v.2.2.2.2)) fun r42_ =>
 .l (.inl ((wrap .i64 (v.1 + 1)), (r24_.2.1, (r24_.2.2.1, (r24_.2.2.2, r42_))))))
 (.l (.inr (v.2.1, (v.2.2.1, (v.2.2.2.1, v.2.2.2.2)))))
noncomputable def wafe (k : Y1 × Y1) (v : Int × (Y1 × (Int × (Int × Y2)))) : Option (Y1 × (Int × (Int × Y2))) := iter (fun v => (wmt k v).ev) v
noncomputable def wxs : LD := ⟨{ acts := [], S := { slots := [0, 4, 5, 6, 8], sh := (yj [.box 64 0, .box 4 0, .box 5 0, .arr 14, .dat yi]), obs := [(64, .cells (yj [.dat (.slice (.int .u8)), .dat yi, .dat (.int .u64)])), (4, .cells (yj [.nilsl, .nilsl])), (5, .cells (yj [.arr 833, .arr 834])), (14, .arr 3 yi), (833, .arr 3 yi), (834, .rows 22 3 yi)] } }, [(2, { acts := [], S := { slots := [0, 4, 5], sh := (yj [.box 64 0, .box 4 0, .box 5 0]), obs := [(64, .cells (yj [.dat (.slice (.int .u8)), .dat yi, .dat (.int .u64)])), (4, .cells (yj [.nilsl, .nilsl])), (5, .cells (yj [.arr 833, .arr 834])), (833, .arr 3 yi), (834, .rows 22 3 yi)] } })], (yh [] .nil), Y1 × Y1, Int × (Y1 × (Int × (Int × Y2))), Y1 × (Int × (Int × Y2)), fun k v => (((), ((), ((), ((), (v.1, ()))))), ((v.2.1, (v.2.2.1, (v.2.2.2.1, ()))), (((), ((), ())), (((), ((), ())), (k.1, (k.2, (v.2.2.2.2, ()))))))), fun t => (t.2.2.2.2.1, t.2.2.2.2.2.1), fun t => (t.1.2.2.2.2.1, (t.2.1.1, (t.2.1.2.1, (t.2.1.2.2.1, t.2.2.2.2.2.2.1)))), wmt, fun k r => .l (.exit 2 (wbe ({ slots := [0, 4, 5], sh := (yj [.box 64 0, .box 4 0, .box 5 0]), obs := [(64, .cells (yj [.dat (.slice (.int .u8)), .dat yi, .dat (.int .u64)])), (4, .cells (yj [.nilsl, .nilsl])), (5, .cells (yj [.arr 833, .arr 834])), (833, .arr 3 yi), (834, .rows 22 3 yi)] }) (((), ((), ((), ()))), ((r.1, (r.2.1, (r.2.2.1, ()))), (((), ((), ())), (((), ((), ())), (k.2, (r.2.2.2, ()))))))))⟩
noncomputable def wasu (a4_ : Int) (a1_ : Y1) (a2_ : Int) (a3_ : Int) : Tr (Y1 × (Y2 × (Y1 × (Int × Int)))) :=
 .c (Y1 × (Y2 × (Y1 × (Int × Int)))) (wabd a4_ a1_ a2_ a3_) fun r1_ =>
 .c (Y1 × (Int × (Int × Y1))) (wafc (r1_.1, r1_.2.1) ((0 : Int), (r1_.2.2.1, (r1_.2.2.2.1, (r1_.2.2.2.2, ([] : Y1)))))) fun r16_ =>
 .c (Y1 × (Int × (Int × Y2))) (wafe (r16_.2.2.2, r1_.1) ((0 : Int), (r16_.1, (r16_.2.1, (r16_.2.2.1, r1_.2.1))))) fun r48_ =>
 .l (r1_.1, (r48_.2.2.2, (r48_.1, (r48_.2.1, r48_.2.2.1))))
noncomputable def wama (a4_ : Int) (a1_ : Y1) (a2_ : Int) (a3_ : Int) : Option (Y1 × (Y2 × (Y1 × (Int × Int)))) := (wasu a4_ a1_ a2_ a3_).ev
noncomputable def wbiw : RetK := { acts := [.ren 833 1, .ren 834 2], res := [.cell 4 29], sh := (yj [.agg (yj [.arr 1, .arr 2])]), obs := [(1, .arr 3 yi), (2, .rows 22 3 yi), (64, .cells (yj [.dat (.slice (.int .u8)), .dat yi, .dat (.int .u64)]))], pins := [(0, 0, 64)] }
noncomputable def wasv : FD := yd (yj [.box 64 0, .dat yi]) [(64, .cells (yj [.dat (.slice (.int .u8)), .dat yi, .dat (.int .u64)]))] [.arg 0] (Y1 × (Y2 × (Y1 × (Int × Int)))) (fun x => wama x.1.2.1 x.2.1.1 x.2.1.2.1 x.2.1.2.2.1) (fun r => ([.agg [.arr 1, .arr 2]], [(1, .arr 3 yi r.1), (2, .rows 22 3 yi r.2.1 none), (64, .cells [.dat (.slice (.int .u8)) r.2.2.1, .dat yi r.2.2.2.1, .dat (.int .u64) r.2.2.2.2])]))
noncomputable def waff : Env := wac [(118, waly), (98, wmo), (109, wafb)]
noncomputable def wafg : List (Nat × LD) := [(0, wxq), (4, wxr), (2, wxs)]
noncomputable def wafh : Code := (f119.body).getD .skip
noncomputable def wmu (k : Y1 × (Y2 × (Y2 × Y1))) (v : Int × Y2) : Tr ((Int × Y2) ⊕ Y2) :=
 .t (decide (v.1 < ((length k.2.1 : Nat) : Int)))
 (.g (inR v.1 (length k.2.1)) <|
 .c Y1 (wgt (getD k.2.1 (toNat v.1) ([] : Y1))) fun r8_ =>
 .g (decide ((length v.2 + 1) * 24 ≤ 140737488355328)) <|
 .l (.inl ((wrap .i64 (v.1 + 1)), (set (v.2 ++ [[]]) (length v.2) r8_))))
 (.l (.inr v.2))
noncomputable def wafi (k : Y1 × (Y2 × (Y2 × Y1))) (v : Int × Y2) : Option Y2 := iter (fun v => (wmu k v).ev) v
noncomputable def wxt : LD := ⟨{ acts := [.ownRB 2 1 900321 22 3 yi, .ownRB 3 1 900331 22 3 yi], S := { slots := [1, 2, 3, 4], sh := (yj [.box 1 0, .box 2 0, .box 3 0, .dat yi]), obs := [(1, .cells (yj [.dat y1, .dat y2])), (2, .cells (yj [.nilsl, .arr 900321])), (3, .cells (yj [.arr 448, .arr 900331])), (900321, .rows 22 3 yi), (448, .arr 3 yi), (900331, .rows 22 3 yi)] } }, [(0, { acts := [], S := { slots := [2, 3], sh := (yj [.box 2 0, .box 3 0]), obs := [(2, .cells (yj [.nilsl, .arr 900321])), (3, .cells (yj [.arr 448, .arr 900331])), (900321, .rows 22 3 yi), (448, .arr 3 yi), (900331, .rows 22 3 yi)] } })], (yh [] .nil), Y1 × (Y2 × (Y2 × Y1)), Int × Y2, List Y1, fun k v => (((), ((), ((), (v.1, ())))), ((k.1, (k.2.1, ())), (((), ((), ())), (((), ((), ())), (k.2.2.1, (k.2.2.2, (v.2, ()))))))), fun t => (t.2.1.1, (t.2.1.2.1, (t.2.2.2.2.1, t.2.2.2.2.2.1))), fun t => (t.1.2.2.2.1, t.2.2.2.2.2.2.1), wmu, fun k r => .l (.exit 0 (wbe ({ slots := [2, 3], sh := (yj [.box 2 0, .box 3 0]), obs := [(2, .cells (yj [.nilsl, .arr 900321])), (3, .cells (yj [.arr 448, .arr 900331])), (900321, .rows 22 3 yi), (448, .arr 3 yi), (900331, .rows 22 3 yi)] }) (((), ((), ())), (((), ((), ())), (((), ((), ())), (k.2.2.1, (k.2.2.2, (r, ()))))))))⟩
noncomputable def wasw (a1_ : Y1) (a2_ : List Y1) : Tr (Y1 × Y2) :=
 .c Y1 (wgt a1_) fun r1_ =>
 .c Y2 (wafi (a1_, (a2_, (([] : List Y1), r1_))) ((0 : Int), ([] : List Y1))) fun r12_ =>
 .l (r1_, r12_)
noncomputable def wamb (a1_ : Y1) (a2_ : List Y1) : Option (Y1 × Y2) := (wasw a1_ a2_).ev
noncomputable def wbix : RetK := { acts := [.ren 448 1, .ren 900331 4], res := [.cell 2 29], sh := (yj [.agg (yj [.arr 1, .arr 4])]), obs := [(1, .arr 3 yi), (4, .rows 22 3 yi)], pins := [] }
noncomputable def wasx : FD := yd (yj [.agg (yj [.dat y1, .dat y2])]) [] [] (Y1 × Y2) (fun x => wamb x.1.1.1 x.1.1.2.1) (fun r => ([.agg [.arr 1, .arr 4]], [(1, .arr 3 yi r.1), (4, .rows 22 3 yi r.2 none)]))
noncomputable def wasy : Env := wac [(140, wsw)]
noncomputable def wasz : List (Nat × LD) := [(0, wxt)]
noncomputable def wata : Code := (f141.body).getD .skip
noncomputable def wji (k : Int × (Int × (Int × (Y1 × Y2)))) (v : Int) : Tr ((Int) ⊕ ((Unit) ⊕ (Unit))) :=
 .t (decide (v < ((length k.2.2.2.1 : Nat) : Int)))
 (.g (inR k.1 (length k.2.2.2.2)) <|
 .g (inR k.2.2.1 (length (getD k.2.2.2.2 (toNat k.1) ([] : Y1)))) <|
 .g (inR k.1 (length k.2.2.2.2)) <|
 .g (inR v (length (getD k.2.2.2.2 (toNat k.1) ([] : Y1)))) <|
 .g (inR k.2.1 (length k.2.2.2.2)) <|
 .g (inR v (length (getD k.2.2.2.2 (toNat k.2.1) ([] : Y1)))) <|
 .g (inR k.2.1 (length k.2.2.2.2)) <|
 .g (inR k.2.2.1 (length (getD k.2.2.2.2 (toNat k.2.1) ([] : Y1)))) <|
 .t (decide ((wrap .i64 ((wrap .i64 ((getD (getD k.2.2.2.2 (toNat k.1) ([] : Y1)) (toNat v) (0 : Int)) + (getD (getD k.2.2.2.2 (toNat k.2.1) ([] : Y1)) (toNat v) (0 : Int)))) + (getD (getD k.2.2.2.2 (toNat k.2.1) ([] : Y1)) (toNat k.2.2.1) (0 : Int)))) < (getD (getD k.2.2.2.2 (toNat k.1) ([] : Y1)) (toNat k.2.2.1) (0 : Int))))
 (.l (.inr (.inr ())))
 (.l (.inl (wrap .i64 (v + 1)))))
 (.l (.inr (.inl ())))
noncomputable def wafj (k : Int × (Int × (Int × (Y1 × Y2)))) (v : Int) : Option ((Unit) ⊕ (Unit)) := iter (fun v => (wji k v).ev) v
noncomputable def wxu : LD := ⟨{ acts := [], S := { slots := [1, 3, 4, 5, 6], sh := (yj [.box 1 0, .dat yi, .dat yi, .dat yi, .dat yi]), obs := [(1, .cells (yj [.dat y1, .dat y2]))] } }, [(6, { acts := [], S := { slots := [1, 3, 4, 5], sh := (yj [.box 1 0, .dat yi, .dat yi, .dat yi]), obs := [(1, .cells (yj [.dat y1, .dat y2]))] } })], (yh [2] (yj [.dat .bool])), Int × (Int × (Int × (Y1 × Y2))), Int, (Unit) ⊕ (Unit), fun k v => (((), (k.1, (k.2.1, (k.2.2.1, (v, ()))))), ((k.2.2.2.1, (k.2.2.2.2, ())), ())), fun t => (t.1.2.1, (t.1.2.2.1, (t.1.2.2.2.1, (t.2.1.1, t.2.1.2.1)))), fun t => t.1.2.2.2.2.1, wji, fun k r => .s (Unit) (Unit) r (fun _ => .l (.exit 6 (wbe ({ slots := [1, 3, 4, 5], sh := (yj [.box 1 0, .dat yi, .dat yi, .dat yi]), obs := [(1, .cells (yj [.dat y1, .dat y2]))] }) (((), (k.1, (k.2.1, (k.2.2.1, ())))), ((k.2.2.2.1, (k.2.2.2.2, ())), ()))))) (fun _ => .l (.ret (wbe ((ys [2] (yj [.dat .bool]))) ((false, ()), ()))))⟩
noncomputable def wjj (k : Int × (Int × (Y1 × Y2))) (v : Int) : Tr ((Int) ⊕ ((Unit) ⊕ (Unit))) :=
 .t (decide (v < ((length k.2.2.1 : Nat) : Int)))
 (.c ((Unit) ⊕ (Unit)) (wafj (k.1, (k.2.1, (v, (k.2.2.1, k.2.2.2)))) (0 : Int)) fun r25_ =>
 .s (Unit) (Unit) r25_
 (fun _ => .l (.inl (wrap .i64 (v + 1))))
 (fun _ => .l (.inr (.inr ()))))
 (.l (.inr (.inl ())))
noncomputable def wafk (k : Int × (Int × (Y1 × Y2))) (v : Int) : Option ((Unit) ⊕ (Unit)) := iter (fun v => (wjj k v).ev) v
noncomputable def wxv : LD := ⟨{ acts := [], S := { slots := [1, 3, 4, 5], sh := (yj [.box 1 0, .dat yi, .dat yi, .dat yi]), obs := [(1, .cells (yj [.dat y1, .dat y2]))] } }, [(4, { acts := [], S := { slots := [1, 3, 4], sh := (yj [.box 1 0, .dat yi, .dat yi]), obs := [(1, .cells (yj [.dat y1, .dat y2]))] } })], (yh [2] (yj [.dat .bool])), Int × (Int × (Y1 × Y2)), Int, (Unit) ⊕ (Unit), fun k v => (((), (k.1, (k.2.1, (v, ())))), ((k.2.2.1, (k.2.2.2, ())), ())), fun t => (t.1.2.1, (t.1.2.2.1, (t.2.1.1, t.2.1.2.1))), fun t => t.1.2.2.2.1, wjj, fun k r => .s (Unit) (Unit) r (fun _ => .l (.exit 4 (wbe ({ slots := [1, 3, 4], sh := (yj [.box 1 0, .dat yi, .dat yi]), obs := [(1, .cells (yj [.dat y1, .dat y2]))] }) (((), (k.1, (k.2.1, ()))), ((k.2.2.1, (k.2.2.2, ())), ()))))) (fun _ => .l (.ret (wbe ((ys [2] (yj [.dat .bool]))) ((false, ()), ()))))⟩
noncomputable def wjk (k : Int × (Y1 × Y2)) (v : Int) : Tr ((Int) ⊕ ((Unit) ⊕ (Unit))) :=
 .t (decide (v < ((length k.2.2 : Nat) : Int)))
 (.c ((Unit) ⊕ (Unit)) (wafk (k.1, (v, (k.2.1, k.2.2))) (0 : Int)) fun r33_ =>
 .s (Unit) (Unit) r33_
 (fun _ => .l (.inl (wrap .i64 (v + 1))))
 (fun _ => .l (.inr (.inr ()))))
 (.l (.inr (.inl ())))
noncomputable def wafl (k : Int × (Y1 × Y2)) (v : Int) : Option ((Unit) ⊕ (Unit)) := iter (fun v => (wjk k v).ev) v
noncomputable def wxw : LD := ⟨{ acts := [], S := { slots := [1, 3, 4], sh := (yj [.box 1 0, .dat yi, .dat yi]), obs := [(1, .cells (yj [.dat y1, .dat y2]))] } }, [(2, { acts := [], S := { slots := [1, 3], sh := (yj [.box 1 0, .dat yi]), obs := [(1, .cells (yj [.dat y1, .dat y2]))] } })], (yh [2] (yj [.dat .bool])), Int × (Y1 × Y2), Int, (Unit) ⊕ (Unit), fun k v => (((), (k.1, (v, ()))), ((k.2.1, (k.2.2, ())), ())), fun t => (t.1.2.1, (t.2.1.1, t.2.1.2.1)), fun t => t.1.2.2.1, wjk, fun k r => .s (Unit) (Unit) r (fun _ => .l (.exit 2 (wbe ({ slots := [1, 3], sh := (yj [.box 1 0, .dat yi]), obs := [(1, .cells (yj [.dat y1, .dat y2]))] }) (((), (k.1, ())), ((k.2.1, (k.2.2, ())), ()))))) (fun _ => .l (.ret (wbe ((ys [2] (yj [.dat .bool]))) ((false, ()), ()))))⟩
noncomputable def wjl (k : Y1 × Y2) (v : Int) : Tr ((Int) ⊕ ((Unit) ⊕ (Unit))) :=
 .t (decide (v < ((length k.2 : Nat) : Int)))
 (.c ((Unit) ⊕ (Unit)) (wafl (v, (k.1, k.2)) (0 : Int)) fun r40_ =>
 .s (Unit) (Unit) r40_
 (fun _ => .l (.inl (wrap .i64 (v + 1))))
 (fun _ => .l (.inr (.inr ()))))
 (.l (.inr (.inl ())))
noncomputable def wafm (k : Y1 × Y2) (v : Int) : Option ((Unit) ⊕ (Unit)) := iter (fun v => (wjl k v).ev) v
noncomputable def wxx : LD := ⟨{ acts := [], S := { slots := [1, 3], sh := (yj [.box 1 0, .dat yi]), obs := [(1, .cells (yj [.dat y1, .dat y2]))] } }, [(0, (yh [] .nil))], (yh [2] (yj [.dat .bool])), Y1 × Y2, Int, (Unit) ⊕ (Unit), fun k v => (((), (v, ())), ((k.1, (k.2, ())), ())), fun t => (t.2.1.1, t.2.1.2.1), fun t => t.1.2.1, wjl, fun _ r => .s (Unit) (Unit) r (fun _ => .l (.exit 0 (wbe ((ys [] .nil)) ((), ())))) (fun _ => .l (.ret (wbe ((ys [2] (yj [.dat .bool]))) ((false, ()), ()))))⟩
noncomputable def watb (a1_ : Y1) (a2_ : List Y1) : Tr (Bool) :=
 .c ((Unit) ⊕ (Unit)) (wafm (a1_, a2_) (0 : Int)) fun r44_ =>
 .s (Unit) (Unit) r44_
 (fun _ => .l true)
 (fun _ => .l false)
noncomputable def wamc (a1_ : Y1) (a2_ : List Y1) : Option (Bool) := (watb a1_ a2_).ev
noncomputable def wbiy : RetK := yr [.tmp 2] (yj [.dat .bool])
noncomputable def watc : FD := yd (yj [.agg (yj [.dat y1, .dat y2])]) [] [] Bool (fun x => wamc x.1.1.1 x.1.1.2.1) (fun r => ([.dat .bool r], []))
noncomputable def wabf : Env := wac []
noncomputable def wabg : List (Nat × LD) := [(6, wxu), (4, wxv), (2, wxw), (0, wxx)]
noncomputable def wabh : Code := (f142.body).getD .skip
noncomputable def watd (a1_ : Int) (a2_ : Int) : Tr (Int) :=
 .t (decide (a1_ < a2_))
 (.l a1_)
 (.l a2_)
noncomputable def wvh (a1_ : Int) (a2_ : Int) : Option (Int) := (watd a1_ a2_).ev
noncomputable def wbiz : RetK := yr [.tmp 4] (yj [.dat yi])
noncomputable def wafn : FD := yd (yj [.dat yi, .dat yi]) [] [] Int (fun x => wvh x.1.1 x.1.2.1) (fun r => ([.dat yi r], []))
noncomputable def wqp (k : Int × (Int × (Int × Y1))) (v : Int × Y2) : Tr ((Int × Y2) ⊕ Y2) :=
 .t (decide (v.1 < ((length k.2.2.2 : Nat) : Int)))
 (.g (inR k.1 (length v.2)) <|
 .g (decide ((toNat k.1) < length v.2)) <|
 .g (inR k.1 (length v.2)) <|
 .g (decide ((toNat k.1) < length v.2)) <|
 .g (inR k.2.2.1 (length (getD v.2 (toNat k.1) ([] : Y1)))) <|
 .g (decide ((toNat k.2.2.1) < length (getD v.2 (toNat k.1) ([] : Y1)))) <|
 .g (inR k.1 (length v.2)) <|
 .g (decide ((toNat k.1) < length v.2)) <|
 .g (inR v.1 (length (getD v.2 (toNat k.1) ([] : Y1)))) <|
 .g (decide ((toNat v.1) < length (getD v.2 (toNat k.1) ([] : Y1)))) <|
 .g (inR k.2.1 (length v.2)) <|
 .g (decide ((toNat k.2.1) < length v.2)) <|
 .g (inR v.1 (length (getD v.2 (toNat k.2.1) ([] : Y1)))) <|
 .g (decide ((toNat v.1) < length (getD v.2 (toNat k.2.1) ([] : Y1)))) <|
 .g (inR k.2.1 (length v.2)) <|
 .g (decide ((toNat k.2.1) < length v.2)) <|
 .g (inR k.2.2.1 (length (getD v.2 (toNat k.2.1) ([] : Y1)))) <|
 .g (decide ((toNat k.2.2.1) < length (getD v.2 (toNat k.2.1) ([] : Y1)))) <|
 .c (Int) (wvh (getD (getD v.2 (toNat k.1) ([] : Y1)) (toNat k.2.2.1) (0 : Int)) (wrap .i64 ((wrap .i64 ((getD (getD v.2 (toNat k.1) ([] : Y1)) (toNat v.1) (0 : Int)) + (getD (getD v.2 (toNat k.2.1) ([] : Y1)) (toNat v.1) (0 : Int)))) + (getD (getD v.2 (toNat k.2.1) ([] : Y1)) (toNat k.2.2.1) (0 : Int))))) fun r23_ =>
 .g (inR k.2.2.1 (length (getD v.2 (toNat k.1) ([] : Y1)))) <|
 .g (decide ((toNat k.2.2.1) < length (getD v.2 (toNat k.1) ([] : Y1)))) <|
 .l (.inl ((wrap .i64 (v.1 + 1)), (set v.2 (toNat k.1) (set (getD v.2 (toNat k.1) ([] : Y1)) (toNat k.2.2.1) r23_)))))
 (.l (.inr v.2))
noncomputable def wafo (k : Int × (Int × (Int × Y1))) (v : Int × Y2) : Option Y2 := iter (fun v => (wqp k v).ev) v
noncomputable def wxy : LD := ⟨{ acts := [], S := { slots := [2, 3, 4, 5, 6, 7], sh := (yj [.box 2 0, .box 3 0, .dat yi, .dat yi, .dat yi, .dat yi]), obs := [(2, .cells (yj [.nilsl, .nilsl])), (3, .cells (yj [.arr 577, .arr 580])), (577, .arr 3 yi), (580, .rows 22 3 yi)] } }, [(8, { acts := [], S := { slots := [2, 3, 4, 5, 6], sh := (yj [.box 2 0, .box 3 0, .dat yi, .dat yi, .dat yi]), obs := [(2, .cells (yj [.nilsl, .nilsl])), (3, .cells (yj [.arr 577, .arr 580])), (577, .arr 3 yi), (580, .rows 22 3 yi)] } })], (yh [] .nil), Int × (Int × (Int × Y1)), Int × Y2, List Y1, fun k v => (((), ((), (k.1, (k.2.1, (k.2.2.1, (v.1, ())))))), (((), ((), ())), (((), ((), ())), (k.2.2.2, (v.2, ()))))), fun t => (t.1.2.2.1, (t.1.2.2.2.1, (t.1.2.2.2.2.1, t.2.2.2.1))), fun t => (t.1.2.2.2.2.2.1, t.2.2.2.2.1), wqp, fun k r => .l (.exit 8 (wbe ({ slots := [2, 3, 4, 5, 6], sh := (yj [.box 2 0, .box 3 0, .dat yi, .dat yi, .dat yi]), obs := [(2, .cells (yj [.nilsl, .nilsl])), (3, .cells (yj [.arr 577, .arr 580])), (577, .arr 3 yi), (580, .rows 22 3 yi)] }) (((), ((), (k.1, (k.2.1, (k.2.2.1, ()))))), (((), ((), ())), (((), ((), ())), (k.2.2.2, (r, ())))))))⟩
noncomputable def wmv (k : Int × (Int × Y1)) (v : Int × Y2) : Tr ((Int × Y2) ⊕ Y2) :=
 .t (decide (v.1 < ((length k.2.2 : Nat) : Int)))
 (.c Y2 (wafo (k.1, (k.2.1, (v.1, k.2.2))) ((0 : Int), v.2)) fun r29_ =>
 .l (.inl ((wrap .i64 (v.1 + 1)), r29_)))
 (.l (.inr v.2))
noncomputable def wafp (k : Int × (Int × Y1)) (v : Int × Y2) : Option Y2 := iter (fun v => (wmv k v).ev) v
noncomputable def wxz : LD := ⟨{ acts := [], S := { slots := [2, 3, 4, 5, 6], sh := (yj [.box 2 0, .box 3 0, .dat yi, .dat yi, .dat yi]), obs := [(2, .cells (yj [.nilsl, .nilsl])), (3, .cells (yj [.arr 577, .arr 580])), (577, .arr 3 yi), (580, .rows 22 3 yi)] } }, [(6, { acts := [], S := { slots := [2, 3, 4, 5], sh := (yj [.box 2 0, .box 3 0, .dat yi, .dat yi]), obs := [(2, .cells (yj [.nilsl, .nilsl])), (3, .cells (yj [.arr 577, .arr 580])), (577, .arr 3 yi), (580, .rows 22 3 yi)] } })], (yh [] .nil), Int × (Int × Y1), Int × Y2, List Y1, fun k v => (((), ((), (k.1, (k.2.1, (v.1, ()))))), (((), ((), ())), (((), ((), ())), (k.2.2, (v.2, ()))))), fun t => (t.1.2.2.1, (t.1.2.2.2.1, t.2.2.2.1)), fun t => (t.1.2.2.2.2.1, t.2.2.2.2.1), wmv, fun k r => .l (.exit 6 (wbe ({ slots := [2, 3, 4, 5], sh := (yj [.box 2 0, .box 3 0, .dat yi, .dat yi]), obs := [(2, .cells (yj [.nilsl, .nilsl])), (3, .cells (yj [.arr 577, .arr 580])), (577, .arr 3 yi), (580, .rows 22 3 yi)] }) (((), ((), (k.1, (k.2.1, ())))), (((), ((), ())), (((), ((), ())), (k.2.2, (r, ())))))))⟩
noncomputable def wmw (k : Int × Y1) (v : Int × Y2) : Tr ((Int × Y2) ⊕ Y2) :=
 .t (decide (v.1 < ((length v.2 : Nat) : Int)))
 (.c Y2 (wafp (k.1, (v.1, k.2)) ((0 : Int), v.2)) fun r34_ =>
 .l (.inl ((wrap .i64 (v.1 + 1)), r34_)))
 (.l (.inr v.2))
noncomputable def wafq (k : Int × Y1) (v : Int × Y2) : Option Y2 := iter (fun v => (wmw k v).ev) v
noncomputable def wya : LD := ⟨{ acts := [], S := { slots := [2, 3, 4, 5], sh := (yj [.box 2 0, .box 3 0, .dat yi, .dat yi]), obs := [(2, .cells (yj [.nilsl, .nilsl])), (3, .cells (yj [.arr 577, .arr 580])), (577, .arr 3 yi), (580, .rows 22 3 yi)] } }, [(4, { acts := [], S := { slots := [2, 3, 4], sh := (yj [.box 2 0, .box 3 0, .dat yi]), obs := [(2, .cells (yj [.nilsl, .nilsl])), (3, .cells (yj [.arr 577, .arr 580])), (577, .arr 3 yi), (580, .rows 22 3 yi)] } })], (yh [] .nil), Int × Y1, Int × Y2, List Y1, fun k v => (((), ((), (k.1, (v.1, ())))), (((), ((), ())), (((), ((), ())), (k.2, (v.2, ()))))), fun t => (t.1.2.2.1, t.2.2.2.1), fun t => (t.1.2.2.2.1, t.2.2.2.2.1), wmw, fun k r => .l (.exit 4 (wbe ({ slots := [2, 3, 4], sh := (yj [.box 2 0, .box 3 0, .dat yi]), obs := [(2, .cells (yj [.nilsl, .nilsl])), (3, .cells (yj [.arr 577, .arr 580])), (577, .arr 3 yi), (580, .rows 22 3 yi)] }) (((), ((), (k.1, ()))), (((), ((), ())), (((), ((), ())), (k.2, (r, ())))))))⟩
noncomputable def wmx (k : Y1) (v : Int × Y2) : Tr ((Int × Y2) ⊕ Y2) :=
 .t (decide (v.1 < ((length v.2 : Nat) : Int)))
 (.c Y2 (wafq (v.1, k) ((0 : Int), v.2)) fun r38_ =>
 .l (.inl ((wrap .i64 (v.1 + 1)), r38_)))
 (.l (.inr v.2))
noncomputable def wafr (k : Y1) (v : Int × Y2) : Option Y2 := iter (fun v => (wmx k v).ev) v
noncomputable def wyb : LD := ⟨{ acts := [], S := { slots := [2, 3, 4], sh := (yj [.box 2 0, .box 3 0, .dat yi]), obs := [(2, .cells (yj [.nilsl, .nilsl])), (3, .cells (yj [.arr 577, .arr 580])), (577, .arr 3 yi), (580, .rows 22 3 yi)] } }, [(2, { acts := [], S := { slots := [2, 3], sh := (yj [.box 2 0, .box 3 0]), obs := [(2, .cells (yj [.nilsl, .nilsl])), (3, .cells (yj [.arr 577, .arr 580])), (577, .arr 3 yi), (580, .rows 22 3 yi)] } })], (yh [] .nil), Y1, Int × Y2, List Y1, fun k v => (((), ((), (v.1, ()))), (((), ((), ())), (((), ((), ())), (k, (v.2, ()))))), fun t => t.2.2.2.1, fun t => (t.1.2.2.1, t.2.2.2.2.1), wmx, fun k r => .l (.exit 2 (wbe ({ slots := [2, 3], sh := (yj [.box 2 0, .box 3 0]), obs := [(2, .cells (yj [.nilsl, .nilsl])), (3, .cells (yj [.arr 577, .arr 580])), (577, .arr 3 yi), (580, .rows 22 3 yi)] }) (((), ((), ())), (((), ((), ())), (((), ((), ())), (k, (r, ())))))))⟩
noncomputable def wqq (k : Y1) (v : List Y1) : Tr (Y2 ⊕ Y2) :=
 .c (Bool) (wamc k v) fun r4_ =>
 .t (!r4_)
 (.c Y2 (wafr k ((0 : Int), v)) fun r41_ =>
 .l (.inl r41_))
 (.l (.inr v))
noncomputable def wqr (k : Y1) (v : List Y1) : Option Y2 := iter (fun v => (wqq k v).ev) v
noncomputable def wyc : LD := ⟨{ acts := [], S := { slots := [2, 3], sh := (yj [.box 2 0, .box 3 0]), obs := [(2, .cells (yj [.nilsl, .nilsl])), (3, .cells (yj [.arr 577, .arr 580])), (577, .arr 3 yi), (580, .rows 22 3 yi)] } }, [(0, { acts := [], S := { slots := [2, 3], sh := (yj [.box 2 0, .box 3 0]), obs := [(2, .cells (yj [.nilsl, .nilsl])), (3, .cells (yj [.arr 577, .arr 580])), (577, .arr 3 yi), (580, .rows 22 3 yi)] } })], (yh [] .nil), Y1, List Y1, List Y1, fun k v => (((), ((), ())), (((), ((), ())), (((), ((), ())), (k, (v, ()))))), fun t => t.2.2.2.1, fun t => t.2.2.2.2.1, wqq, fun k r => .l (.exit 0 (wbe ({ slots := [2, 3], sh := (yj [.box 2 0, .box 3 0]), obs := [(2, .cells (yj [.nilsl, .nilsl])), (3, .cells (yj [.arr 577, .arr 580])), (577, .arr 3 yi), (580, .rows 22 3 yi)] }) (((), ((), ())), (((), ((), ())), (((), ((), ())), (k, (r, ())))))))⟩
noncomputable def wate (a1_ : Y1) (a2_ : List Y1) : Tr (Y1 × Y2) :=
 .c (Y1 × Y2) (wamb a1_ a2_) fun r1_ =>
 .c Y2 (wqr r1_.1 r1_.2) fun r44_ =>
 .l (r1_.1, r44_)
noncomputable def wamd (a1_ : Y1) (a2_ : List Y1) : Option (Y1 × Y2) := (wate a1_ a2_).ev
noncomputable def wbja : RetK := { acts := [.ren 577 1, .ren 580 4], res := [.cell 2 29], sh := (yj [.agg (yj [.arr 1, .arr 4])]), obs := [(1, .arr 3 yi), (4, .rows 22 3 yi)], pins := [] }
noncomputable def watf : FD := yd (yj [.agg (yj [.dat y1, .dat y2])]) [] [] (Y1 × Y2) (fun x => wamd x.1.1.1 x.1.1.2.1) (fun r => ([.agg [.arr 1, .arr 4]], [(1, .arr 3 yi r.1), (4, .rows 22 3 yi r.2 none)]))
noncomputable def wvi : Env := wac [(141, wasx), (142, watc), (68, wafn)]
noncomputable def wvj : List (Nat × LD) := [(8, wxy), (6, wxz), (4, wya), (2, wyb), (0, wyc)]
noncomputable def wvk : Code := (f120.body).getD .skip
noncomputable def watg (a4_ : Int) (a1_ : Y1) (a2_ : Int) (a3_ : Int) : Tr (Y1 × (Y2 × (Y1 × (Int × Int)))) :=
 .c (Int × (Y1 × (Int × Int))) (wal (3 : Int) a1_ a2_ a3_) fun r1_ =>
 .t (r1_.1 == 0)
 (.c (Y1 × (Y2 × (Y1 × (Int × Int)))) (wabd a4_ r1_.2.1 r1_.2.2.1 r1_.2.2.2) fun r2_ =>
 .c (Y1 × (Y2 × (Y1 × (Int × Int)))) (wabe r2_.2.2.1 r2_.2.2.2.1 r2_.2.2.2.2 r2_.1 r2_.2.1) fun r3_ =>
 .l (r3_.1, (r3_.2.1, (r3_.2.2.1, (r3_.2.2.2.1, r3_.2.2.2.2)))))
 (.t (r1_.1 == 1)
 (.c (Y1 × (Y2 × (Y1 × (Int × Int)))) (wama a4_ r1_.2.1 r1_.2.2.1 r1_.2.2.2) fun r4_ =>
 .c (Y1 × (Y2 × (Y1 × (Int × Int)))) (wabe r4_.2.2.1 r4_.2.2.2.1 r4_.2.2.2.2 r4_.1 r4_.2.1) fun r5_ =>
 .l (r5_.1, (r5_.2.1, (r5_.2.2.1, (r5_.2.2.2.1, r5_.2.2.2.2)))))
 (.c (Y1 × (Y2 × (Y1 × (Int × Int)))) (wabd a4_ r1_.2.1 r1_.2.2.1 r1_.2.2.2) fun r6_ =>
 .c (Y1 × Y2) (wamd r6_.1 r6_.2.1) fun r7_ =>
 .c (Y1 × (Y2 × (Y1 × (Int × Int)))) (wabe r6_.2.2.1 r6_.2.2.2.1 r6_.2.2.2.2 r7_.1 r7_.2) fun r8_ =>
 .l (r8_.1, (r8_.2.1, (r8_.2.2.1, (r8_.2.2.2.1, r8_.2.2.2.2))))))
noncomputable def wafs (a4_ : Int) (a1_ : Y1) (a2_ : Int) (a3_ : Int) : Option (Y1 × (Y2 × (Y1 × (Int × Int)))) := (watg a4_ a1_ a2_ a3_).ev
noncomputable def wbjb : RetK := { acts := [.ren 833 1, .ren 1281 1, .ren 1665 1, .ren 834 2, .ren 1282 2, .ren 1666 2], res := [.cell 4 29], sh := (yj [.agg (yj [.arr 1, .arr 2])]), obs := [(1, .arr 3 yi), (2, .rows 22 3 yi), (64, .cells (yj [.dat (.slice (.int .u8)), .dat yi, .dat (.int .u64)]))], pins := [(0, 0, 64)] }
noncomputable def wath : FD := yd (yj [.box 64 0, .dat yi]) [(64, .cells (yj [.dat (.slice (.int .u8)), .dat yi, .dat (.int .u64)]))] [.arg 0] (Y1 × (Y2 × (Y1 × (Int × Int)))) (fun x => wafs x.1.2.1 x.2.1.1 x.2.1.2.1 x.2.1.2.2.1) (fun r => ([.agg [.arr 1, .arr 2]], [(1, .arr 3 yi r.1), (2, .rows 22 3 yi r.2.1 none), (64, .cells [.dat (.slice (.int .u8)) r.2.2.1, .dat yi r.2.2.2.1, .dat (.int .u64) r.2.2.2.2])]))
noncomputable def wati (a1_ : Int) (a2_ : Int) (a3_ : Int) : Tr (Bool) :=
 .t (decide (a2_ ≤ a1_))
 (.l (decide (a1_ ≤ a3_)))
 (.l false)
noncomputable def wjm (a1_ : Int) (a2_ : Int) (a3_ : Int) : Option (Bool) := (wati a1_ a2_ a3_).ev
noncomputable def wbjc : RetK := yr [.tmp 6] (yj [.dat .bool])
noncomputable def wsx : FD := yd (yj [.dat yi, .dat yi, .dat yi]) [] [] Bool (fun x => wjm x.1.1 x.1.2.1 x.1.2.2.1) (fun r => ([.dat .bool r], []))
noncomputable def wmy (k : Y1 × (Int × Int)) (v : Int) : Tr ((Int) ⊕ ((Unit) ⊕ (Unit))) :=
 .t (decide (v < ((length k.1 : Nat) : Int)))
 (.g (inR v (length k.1)) <|
 .c (Bool) (wjm (getD k.1 (toNat v) 0) (0 : Int) k.2.2) fun r5_ =>
 .t (!r5_)
 (.l (.inr (.inr ())))
 (.l (.inl (wrap .i64 (v + 1)))))
 (.l (.inr (.inl ())))
noncomputable def waft (k : Y1 × (Int × Int)) (v : Int) : Option ((Unit) ⊕ (Unit)) := iter (fun v => (wmy k v).ev) v
noncomputable def wyd : LD := ⟨(yh [0, 1, 2, 7] (yj [.dat y1, .dat yi, .dat yi, .dat yi])), [(0, (yh [0, 1] (yj [.dat y1, .dat yi])))], (yh [6] (yj [.dat .bool])), Y1 × (Int × Int), Int, (Unit) ⊕ (Unit), fun k v => ((k.1, (k.2.1, (k.2.2, (v, ())))), ()), fun t => (t.1.1, (t.1.2.1, t.1.2.2.1)), fun t => t.1.2.2.2.1, wmy, fun k r => .s (Unit) (Unit) r (fun _ => .l (.exit 0 (wbe ((ys [0, 1] (yj [.dat y1, .dat yi]))) ((k.1, (k.2.1, ())), ())))) (fun _ => .l (.ret (wbe ((ys [6] (yj [.dat .bool]))) ((false, ()), ()))))⟩
noncomputable def watj (a1_ : Y1) (a2_ : Int) (a3_ : Int) : Tr (Bool) :=
 .c ((Unit) ⊕ (Unit)) (waft (a1_, (a2_, a3_)) (0 : Int)) fun r9_ =>
 .s (Unit) (Unit) r9_
 (fun _ => .l (((length a1_ : Nat) : Int) == a2_))
 (fun _ => .l false)
noncomputable def wafu (a1_ : Y1) (a2_ : Int) (a3_ : Int) : Option (Bool) := (watj a1_ a2_ a3_).ev
noncomputable def wbjd : RetK := yr [.tmp 6] (yj [.dat .bool])
noncomputable def watk : FD := yd (yj [.dat y1, .dat yi, .dat yi]) [] [] Bool (fun x => wafu x.1.1 x.1.2.1 x.1.2.2.1) (fun r => ([.dat .bool r], []))
noncomputable def watl : Env := wac [(74, wsx)]
noncomputable def watm : List (Nat × LD) := [(0, wyd)]
noncomputable def watn : Code := (f85.body).getD .skip
noncomputable def wmz (k : Int × (Y1 × Y2)) (v : Int) : Tr ((Int) ⊕ ((Unit) ⊕ (Unit))) :=
 .t (decide (v < ((length k.2.2 : Nat) : Int)))
 (.g (inR v (length k.2.2)) <|
 .c (Bool) (wafu (getD k.2.2 (toNat v) ([] : Y1)) k.1 (99 : Int)) fun r5_ =>
 .t (!r5_)
 (.l (.inr (.inr ())))
 (.l (.inl (wrap .i64 (v + 1)))))
 (.l (.inr (.inl ())))
noncomputable def wafv (k : Int × (Y1 × Y2)) (v : Int) : Option ((Unit) ⊕ (Unit)) := iter (fun v => (wmz k v).ev) v
noncomputable def wye : LD := ⟨{ acts := [], S := { slots := [1, 3, 4], sh := (yj [.box 1 0, .dat yi, .dat yi]), obs := [(1, .cells (yj [.dat y1, .dat y2]))] } }, [(0, { acts := [], S := { slots := [1, 3], sh := (yj [.box 1 0, .dat yi]), obs := [(1, .cells (yj [.dat y1, .dat y2]))] } })], (yh [2] (yj [.dat .bool])), Int × (Y1 × Y2), Int, (Unit) ⊕ (Unit), fun k v => (((), (k.1, (v, ()))), ((k.2.1, (k.2.2, ())), ())), fun t => (t.1.2.1, (t.2.1.1, t.2.1.2.1)), fun t => t.1.2.2.1, wmz, fun k r => .s (Unit) (Unit) r (fun _ => .l (.exit 0 (wbe ({ slots := [1, 3], sh := (yj [.box 1 0, .dat yi]), obs := [(1, .cells (yj [.dat y1, .dat y2]))] }) (((), (k.1, ())), ((k.2.1, (k.2.2, ())), ()))))) (fun _ => .l (.ret (wbe ((ys [2] (yj [.dat .bool]))) ((false, ()), ()))))⟩
noncomputable def wato (a1_ : Y1) (a2_ : List Y1) : Tr (Bool) :=
 .c ((Unit) ⊕ (Unit)) (wafv (((length a1_ : Nat) : Int), (a1_, a2_)) (0 : Int)) fun r10_ =>
 .s (Unit) (Unit) r10_
 (fun _ => .c (Bool) (wjm ((length a1_ : Nat) : Int) (1 : Int) (7 : Int)) fun r13_ =>
 .t r13_
 (.c (Bool) (wafu a1_ ((length a1_ : Nat) : Int) (99 : Int)) fun r14_ =>
 .t r14_
 (.l (decide (((length a2_ : Nat) : Int) ≤ (7 : Int))))
 (.l false))
 (.l false))
 (fun _ => .l false)
noncomputable def wabi (a1_ : Y1) (a2_ : List Y1) : Option (Bool) := (wato a1_ a2_).ev
noncomputable def wbje : RetK := yr [.tmp 2] (yj [.dat .bool])
noncomputable def wafw : FD := yd (yj [.agg (yj [.dat y1, .dat y2])]) [] [] Bool (fun x => wabi x.1.1.1 x.1.1.2.1) (fun r => ([.dat .bool r], []))
noncomputable def watp : Env := wac [(85, watk), (74, wsx)]
noncomputable def watq : List (Nat × LD) := [(0, wye)]
noncomputable def watr : Code := (f55.body).getD .skip
noncomputable def wats (a4_ : Int) (a1_ : Y1) (a2_ : Int) (a3_ : Int) : Tr (Bool × (Y1 × (Int × Int))) :=
 .c (Int × (Y1 × (Int × Int))) (wal a4_ a1_ a2_ a3_) fun r1_ =>
 .l ((r1_.1 == 0), (r1_.2.1, (r1_.2.2.1, r1_.2.2.2)))
noncomputable def wabj (a4_ : Int) (a1_ : Y1) (a2_ : Int) (a3_ : Int) : Option (Bool × (Y1 × (Int × Int))) := (wats a4_ a1_ a2_ a3_).ev
noncomputable def wbjf : RetK := { acts := [], res := [.tmp 4], sh := (yj [.dat .bool]), obs := [(64, .cells (yj [.dat (.slice (.int .u8)), .dat yi, .dat (.int .u64)]))], pins := [(0, 0, 64)] }
noncomputable def wame : FD := yd (yj [.box 64 0, .dat yi]) [(64, .cells (yj [.dat (.slice (.int .u8)), .dat yi, .dat (.int .u64)]))] [.arg 0] (Bool × (Y1 × (Int × Int))) (fun x => wabj x.1.2.1 x.2.1.1 x.2.1.2.1 x.2.1.2.2.1) (fun r => ([.dat .bool r.1], [(64, .cells [.dat (.slice (.int .u8)) r.2.1, .dat yi r.2.2.1, .dat (.int .u64) r.2.2.2])]))
noncomputable def wfv (k : Int × Int) (v : Int × Y1) : Tr ((Int × Y1) ⊕ Y1) :=
 .t (decide (v.1 < k.1))
 (.g (decide (0 ≤ v.1)) <|
 .t ((wrap .i64 (BitVec.toNat ((BitVec.ofInt (IntKind.bits .i64) (Int.fdiv k.2 (2 ^ (min (toNat v.1) (IntKind.bits .i64))))) &&& (BitVec.ofInt (IntKind.bits .i64) (1 : Int))))) == (1 : Int))
 (.g (decide ((length v.2 + length ([v.1] : Y1)) * 8 ≤ 140737488355328)) <|
 .l (.inl ((wrap .i64 (v.1 + 1)), (v.2 ++ ([v.1] : Y1)))))
 (.l (.inl ((wrap .i64 (v.1 + 1)), v.2))))
 (.l (.inr v.2))
noncomputable def wqs (k : Int × Int) (v : Int × Y1) : Option Y1 := iter (fun v => (wfv k v).ev) v
noncomputable def wyf : LD := ⟨{ acts := [], S := { slots := [0, 1, 5, 6], sh := (yj [.dat yi, .dat yi, .arr 7, .dat yi]), obs := [(7, .arr 3 yi)] } }, [(0, { acts := [], S := { slots := [5], sh := (yj [.arr 7]), obs := [(7, .arr 3 yi)] } })], (yh [] .nil), Int × (Int), Int × Y1, Y1, fun k v => ((k.1, (k.2, ((), (v.1, ())))), (v.2, ())), fun t => (t.1.1, t.1.2.1), fun t => (t.1.2.2.2.1, t.2.1), wfv, fun _ r => .l (.exit 0 (wbe ({ slots := [5], sh := (yj [.arr 7]), obs := [(7, .arr 3 yi)] }) (((), ()), (r, ()))))⟩
noncomputable def wafx (a1_ : Int) (a2_ : Int) : Tr Y1 :=
 .c Y1 (wqs (a1_, a2_) ((0 : Int), ([] : Y1))) fun r6_ =>
 .l r6_
noncomputable def wsy (a1_ : Int) (a2_ : Int) : Option Y1 := (wafx a1_ a2_).ev
noncomputable def wbjg : RetK := { acts := [.ren 7 0], res := [.tmp 4], sh := (yj [.arr 0]), obs := [(0, .arr 3 yi)], pins := [] }
noncomputable def wamf : FD := yd (yj [.dat yi, .dat yi]) [] [] Y1 (fun x => wsy x.1.1 x.1.2.1) (fun r => ([.arr 0], [(0, .arr 3 yi r)]))
noncomputable def watt : Env := wac []
noncomputable def watu : List (Nat × LD) := [(0, wyf)]
noncomputable def watv : Code := (f86.body).getD .skip
noncomputable def wjn (k : Y1 × (Int × Int)) (v : Int) : Tr ((Int) ⊕ ((Unit) ⊕ (Unit))) :=
 .t (decide (v < ((length k.1 : Nat) : Int)))
 (.g (inR v (length k.1)) <|
 .c (Bool) (wjm (getD k.1 (toNat v) 0) k.2.1 k.2.2) fun r5_ =>
 .t (!r5_)
 (.l (.inr (.inr ())))
 (.t (decide (0 < v))
 (.g (inR (wrap .i64 (v - 1)) (length k.1)) <|
 .g (inR v (length k.1)) <|
 .t (decide ((getD k.1 (toNat v) 0) ≤ (getD k.1 (toNat (wrap .i64 (v - 1))) (0 : Int))))
 (.l (.inr (.inr ())))
 (.l (.inl (wrap .i64 (v + 1)))))
 (.l (.inl (wrap .i64 (v + 1))))))
 (.l (.inr (.inl ())))
noncomputable def wafy (k : Y1 × (Int × Int)) (v : Int) : Option ((Unit) ⊕ (Unit)) := iter (fun v => (wjn k v).ev) v
noncomputable def wyg : LD := ⟨(yh [0, 1, 2, 7] (yj [.dat y1, .dat yi, .dat yi, .dat yi])), [(0, (yh [] .nil))], (yh [6] (yj [.dat .bool])), Y1 × (Int × Int), Int, (Unit) ⊕ (Unit), fun k v => ((k.1, (k.2.1, (k.2.2, (v, ())))), ()), fun t => (t.1.1, (t.1.2.1, t.1.2.2.1)), fun t => t.1.2.2.2.1, wjn, fun _ r => .s (Unit) (Unit) r (fun _ => .l (.exit 0 (wbe ((ys [] .nil)) ((), ())))) (fun _ => .l (.ret (wbe ((ys [6] (yj [.dat .bool]))) ((false, ()), ()))))⟩
noncomputable def watw (a1_ : Y1) (a2_ : Int) (a3_ : Int) : Tr (Bool) :=
 .c ((Unit) ⊕ (Unit)) (wafy (a1_, (a2_, a3_)) (0 : Int)) fun r7_ =>
 .s (Unit) (Unit) r7_
 (fun _ => .l true)
 (fun _ => .l false)
noncomputable def wamg (a1_ : Y1) (a2_ : Int) (a3_ : Int) : Option (Bool) := (watw a1_ a2_ a3_).ev
noncomputable def wbjh : RetK := yr [.tmp 6] (yj [.dat .bool])
noncomputable def watx : FD := yd (yj [.dat y1, .dat yi, .dat yi]) [] [] Bool (fun x => wamg x.1.1 x.1.2.1 x.1.2.2.1) (fun r => ([.dat .bool r], []))
noncomputable def waty : Env := wac [(74, wsx)]
noncomputable def watz : List (Nat × LD) := [(0, wyg)]
noncomputable def waua : Code := (f103.body).getD .skip
noncomputable def waub (a1_ : Y1) (_a2_ : List Y1) (a3_ : Y1) : Tr (Bool) :=
 .c (Bool) (wamg a3_ (0 : Int) (wrap .i64 (((length a1_ : Nat) : Int) - 1))) fun r1_ =>
 .l r1_
noncomputable def wafz (a1_ : Y1) (a2_ : List Y1) (a3_ : Y1) : Option (Bool) := (waub a1_ a2_ a3_).ev
noncomputable def wbji : RetK := yr [.tmp 4] (yj [.dat .bool])
noncomputable def wamh : FD := yd (yj [.agg (yj [.dat y1, .dat y2]), .dat y1]) [] [] Bool (fun x => wafz x.1.1.1 x.1.1.2.1 x.1.2.1) (fun r => ([.dat .bool r], []))
noncomputable def wauc (a1_ : Y1) (a2_ : List Y1) (a3_ : Y1) (a4_ : Int) : Tr (Bool) :=
 .c (Bool) (wabi a1_ a2_) fun r1_ =>
 .t r1_
 (.c (Bool) (wafz a1_ a2_ a3_) fun r2_ =>
 .t r2_
 (.c (Bool) (wjm a4_ (0 : Int) (1000 : Int)) fun r3_ =>
 .l r3_)
 (.l false))
 (.l false)
noncomputable def wabk (a1_ : Y1) (a2_ : List Y1) (a3_ : Y1) (a4_ : Int) : Option (Bool) := (wauc a1_ a2_ a3_ a4_).ev
noncomputable def wbjj : RetK := yr [.tmp 2] (yj [.dat .bool])
noncomputable def waga : FD := yd (yj [.agg (yj [.dat y1, .dat y2, .dat y1, .dat yi])]) [] [] Bool (fun x => wabk x.1.1.1 x.1.1.2.1 x.1.1.2.2.1 x.1.1.2.2.2.1) (fun r => ([.dat .bool r], []))
noncomputable def wjo (k : Int) (v : Int × (Y1 × (Int × (Int × Y1)))) : Tr ((Int × (Y1 × (Int × (Int × Y1)))) ⊕ (Y1 × (Int × (Int × Y1)))) :=
 .t (decide (v.1 < k))
 (.t (decide (v.1 < 7))
 (.c (Int × (Y1 × (Int × Int))) (wal (20 : Int) v.2.1 v.2.2.1 v.2.2.2.1) fun r7_ =>
 .g (decide ((length v.2.2.2.2 + length ([r7_.1] : Y1)) * 8 ≤ 140737488355328)) <|
 .l (.inl ((wrap .i64 (v.1 + 1)), (r7_.2.1, (r7_.2.2.1, (r7_.2.2.2, (v.2.2.2.2 ++ ([r7_.1] : Y1))))))))
 (.l (.inr (v.2.1, (v.2.2.1, (v.2.2.2.1, v.2.2.2.2))))))
 (.l (.inr (v.2.1, (v.2.2.1, (v.2.2.2.1, v.2.2.2.2)))))
noncomputable def wagb (k : Int) (v : Int × (Y1 × (Int × (Int × Y1)))) : Option (Y1 × (Int × (Int × Y1))) := iter (fun v => (wjo k v).ev) v
noncomputable def wyh : LD := ⟨{ acts := [], S := { slots := [0, 1, 5, 6], sh := (yj [.box 64 0, .dat yi, .arr 7, .dat yi]), obs := [(64, .cells (yj [.dat (.slice (.int .u8)), .dat yi, .dat (.int .u64)])), (7, .arr 3 yi)] } }, [(0, { acts := [], S := { slots := [0, 5], sh := (yj [.box 64 0, .arr 7]), obs := [(64, .cells (yj [.dat (.slice (.int .u8)), .dat yi, .dat (.int .u64)])), (7, .arr 3 yi)] } })], (yh [] .nil), Int, Int × (Y1 × (Int × (Int × Y1))), Y1 × (Int × (Int × Y1)), fun k v => (((), (k, ((), (v.1, ())))), ((v.2.1, (v.2.2.1, (v.2.2.2.1, ()))), (v.2.2.2.2, ()))), fun t => t.1.2.1, fun t => (t.1.2.2.2.1, (t.2.1.1, (t.2.1.2.1, (t.2.1.2.2.1, t.2.2.1)))), wjo, fun _ r => .l (.exit 0 (wbe ({ slots := [0, 5], sh := (yj [.box 64 0, .arr 7]), obs := [(64, .cells (yj [.dat (.slice (.int .u8)), .dat yi, .dat (.int .u64)])), (7, .arr 3 yi)] }) (((), ((), ())), ((r.1, (r.2.1, (r.2.2.1, ()))), (r.2.2.2, ())))))⟩
noncomputable def waud (a4_ : Int) (a1_ : Y1) (a2_ : Int) (a3_ : Int) : Tr (Y1 × (Y1 × (Int × Int))) :=
 .c (Y1 × (Int × (Int × Y1))) (wagb a4_ ((0 : Int), (a1_, (a2_, (a3_, ([] : Y1)))))) fun r12_ =>
 .c (Bool × (Y1 × (Int × Int))) (wabj (12 : Int) r12_.1 r12_.2.1 r12_.2.2.1) fun r13_ =>
 .t r13_.1
 (.c (Int × (Y1 × (Int × Int))) (wad ([(0 : Int), (-1 : Int), (100 : Int)] : Y1) r13_.2.1 r13_.2.2.1 r13_.2.2.2) fun r14_ =>
 .g (decide ((length r12_.2.2.2 + length ([r14_.1] : Y1)) * 8 ≤ 140737488355328)) <|
 .l ((r12_.2.2.2 ++ ([r14_.1] : Y1)), (r14_.2.1, (r14_.2.2.1, r14_.2.2.2))))
 (.l (r12_.2.2.2, (r13_.2.1, (r13_.2.2.1, r13_.2.2.2))))
noncomputable def woi (a4_ : Int) (a1_ : Y1) (a2_ : Int) (a3_ : Int) : Option (Y1 × (Y1 × (Int × Int))) := (waud a4_ a1_ a2_ a3_).ev
noncomputable def wbjk : RetK := { acts := [.ren 7 0], res := [.tmp 4], sh := (yj [.arr 0]), obs := [(0, .arr 3 yi), (64, .cells (yj [.dat (.slice (.int .u8)), .dat yi, .dat (.int .u64)]))], pins := [(0, 0, 64)] }
noncomputable def waue : FD := yd (yj [.box 64 0, .dat yi]) [(64, .cells (yj [.dat (.slice (.int .u8)), .dat yi, .dat (.int .u64)]))] [.arg 0] (Y1 × (Y1 × (Int × Int))) (fun x => woi x.1.2.1 x.2.1.1 x.2.1.2.1 x.2.1.2.2.1) (fun r => ([.arr 0], [(0, .arr 3 yi r.1), (64, .cells [.dat (.slice (.int .u8)) r.2.1, .dat yi r.2.2.1, .dat (.int .u64) r.2.2.2])]))
noncomputable def wauf : Nat → Nat → List Nat := fun r i => match look [(7, [(3, [26])])] r with
 | some l => (look l i).getD []
 | none => []
noncomputable def waug : Env := wac [(98, wmo), (97, wame), (101, wvf)]
noncomputable def wauh : List (Nat × LD) := [(0, wyh)]
noncomputable def waui : Code := (f125.body).getD .skip
noncomputable def wami (a4_ : Y1) (a5_ : List Y1) (a1_ : Y1) (a2_ : Int) (a3_ : Int) : Tr (Int × (Int × (Int × (Int × (Y1 × (Y1 × (Int × Int))))))) :=
 .c (Int × (Y1 × (Int × Int))) (wal (11 : Int) a1_ a2_ a3_) fun r1_ =>
 .c (Int) (wvh ((length a4_ : Nat) : Int) (7 : Int)) fun r2_ =>
 .c (Int) (wvg (1 : Int) r2_) fun r3_ =>
 .c (Int) (wvh ((length a5_ : Nat) : Int) (7 : Int)) fun r4_ =>
 .c (Int) (wvg (1 : Int) r4_) fun r5_ =>
 .t ((wrap .i64 ((1 : Int) + r1_.1)) == (1 : Int))
 (.t ((wrap .i64 ((1 : Int) + r1_.1)) == (1 : Int))
 (.c (Int × (Y1 × (Int × Int))) (wal r3_ r1_.2.1 r1_.2.2.1 r1_.2.2.2) fun r6_ =>
 .c (Int × (Y1 × (Int × Int))) (wal (32 : Int) r6_.2.1 r6_.2.2.1 r6_.2.2.2) fun r7_ =>
 .t (r7_.1 == 0)
 (.c (Int × (Y1 × (Int × Int))) (wad ([(-1 : Int), (7 : Int), (4611686018427387904 : Int)] : Y1) r7_.2.1 r7_.2.2.1 r7_.2.2.2) fun r8_ =>
 .l ((wrap .i64 ((1 : Int) + r1_.1)), (r8_.1, ((0 : Int), ((0 : Int), (([] : Y1), (r8_.2.1, (r8_.2.2.1, r8_.2.2.2))))))))
 (.t (r7_.1 == 1)
 (.c (Int × (Y1 × (Int × Int))) (wad ([(-1 : Int), (1 : Int)] : Y1) r7_.2.1 r7_.2.2.1 r7_.2.2.2) fun r9_ =>
 .l ((wrap .i64 ((1 : Int) + r1_.1)), (r6_.1, ((0 : Int), (r9_.1, (([] : Y1), (r9_.2.1, (r9_.2.2.1, r9_.2.2.2))))))))
 (.t (r7_.1 == 2)
 (.c (Int × (Y1 × (Int × Int))) (wad ([(0 : Int), (12 : Int), (-1 : Int)] : Y1) r7_.2.1 r7_.2.2.1 r7_.2.2.2) fun r10_ =>
 .l (r10_.1, (r6_.1, ((0 : Int), ((0 : Int), (([] : Y1), (r10_.2.1, (r10_.2.2.1, r10_.2.2.2))))))))
 (.t (r7_.1 == 3)
 (.g (decide (length ([(1 : Int)] : Y1) * 8 ≤ 140737488355328)) <|
 .l ((wrap .i64 ((1 : Int) + r1_.1)), (r6_.1, ((0 : Int), ((0 : Int), (([(1 : Int)] : Y1), (r7_.2.1, (r7_.2.2.1, r7_.2.2.2))))))))
 (.l ((wrap .i64 ((1 : Int) + r1_.1)), (r6_.1, ((0 : Int), ((0 : Int), (([] : Y1), (r7_.2.1, (r7_.2.2.1, r7_.2.2.2))))))))))))
 (.t ((wrap .i64 ((1 : Int) + r1_.1)) == (3 : Int))
 (.c (Int × (Y1 × (Int × Int))) (wal r3_ r1_.2.1 r1_.2.2.1 r1_.2.2.2) fun r11_ =>
 .c (Int × (Y1 × (Int × Int))) (wal r3_ r11_.2.1 r11_.2.2.1 r11_.2.2.2) fun r12_ =>
 .c (Int × (Y1 × (Int × Int))) (wal (32 : Int) r12_.2.1 r12_.2.2.1 r12_.2.2.2) fun r13_ =>
 .t (r13_.1 == 0)
 (.c (Int × (Y1 × (Int × Int))) (wad ([(-1 : Int), (7 : Int), (4611686018427387904 : Int)] : Y1) r13_.2.1 r13_.2.2.1 r13_.2.2.2) fun r14_ =>
 .l ((wrap .i64 ((1 : Int) + r1_.1)), (r14_.1, (r12_.1, ((0 : Int), (([] : Y1), (r14_.2.1, (r14_.2.2.1, r14_.2.2.2))))))))
 (.t (r13_.1 == 1)
 (.c (Int × (Y1 × (Int × Int))) (wad ([(-1 : Int), (1 : Int)] : Y1) r13_.2.1 r13_.2.2.1 r13_.2.2.2) fun r15_ =>
 .l ((wrap .i64 ((1 : Int) + r1_.1)), (r11_.1, (r12_.1, (r15_.1, (([] : Y1), (r15_.2.1, (r15_.2.2.1, r15_.2.2.2))))))))
 (.t (r13_.1 == 2)
 (.c (Int × (Y1 × (Int × Int))) (wad ([(0 : Int), (12 : Int), (-1 : Int)] : Y1) r13_.2.1 r13_.2.2.1 r13_.2.2.2) fun r16_ =>
 .l (r16_.1, (r11_.1, (r12_.1, ((0 : Int), (([] : Y1), (r16_.2.1, (r16_.2.2.1, r16_.2.2.2))))))))
 (.t (r13_.1 == 3)
 (.g (decide (length ([(1 : Int)] : Y1) * 8 ≤ 140737488355328)) <|
 .l ((wrap .i64 ((1 : Int) + r1_.1)), (r11_.1, (r12_.1, ((0 : Int), (([(1 : Int)] : Y1), (r13_.2.1, (r13_.2.2.1, r13_.2.2.2))))))))
 (.l ((wrap .i64 ((1 : Int) + r1_.1)), (r11_.1, (r12_.1, ((0 : Int), (([] : Y1), (r13_.2.1, (r13_.2.2.1, r13_.2.2.2))))))))))))
 (.t ((wrap .i64 ((1 : Int) + r1_.1)) == (4 : Int))
 (.c (Int × (Y1 × (Int × Int))) (wal r3_ r1_.2.1 r1_.2.2.1 r1_.2.2.2) fun r17_ =>
 .c (Int × (Y1 × (Int × Int))) (wad ([(0 : Int), (3 : Int), (10 : Int), (99 : Int), (100 : Int)] : Y1) r17_.2.1 r17_.2.2.1 r17_.2.2.2) fun r18_ =>
 .c (Int × (Y1 × (Int × Int))) (wal (32 : Int) r18_.2.1 r18_.2.2.1 r18_.2.2.2) fun r19_ =>
 .t (r19_.1 == 0)
 (.c (Int × (Y1 × (Int × Int))) (wad ([(-1 : Int), (7 : Int), (4611686018427387904 : Int)] : Y1) r19_.2.1 r19_.2.2.1 r19_.2.2.2) fun r20_ =>
 .l ((wrap .i64 ((1 : Int) + r1_.1)), (r20_.1, (r18_.1, ((0 : Int), (([] : Y1), (r20_.2.1, (r20_.2.2.1, r20_.2.2.2))))))))
 (.t (r19_.1 == 1)
 (.c (Int × (Y1 × (Int × Int))) (wad ([(-1 : Int), (1 : Int)] : Y1) r19_.2.1 r19_.2.2.1 r19_.2.2.2) fun r21_ =>
 .l ((wrap .i64 ((1 : Int) + r1_.1)), (r17_.1, (r18_.1, (r21_.1, (([] : Y1), (r21_.2.1, (r21_.2.2.1, r21_.2.2.2))))))))
 (.t (r19_.1 == 2)
 (.c (Int × (Y1 × (Int × Int))) (wad ([(0 : Int), (12 : Int), (-1 : Int)] : Y1) r19_.2.1 r19_.2.2.1 r19_.2.2.2) fun r22_ =>
 .l (r22_.1, (r17_.1, (r18_.1, ((0 : Int), (([] : Y1), (r22_.2.1, (r22_.2.2.1, r22_.2.2.2))))))))
 (.t (r19_.1 == 3)
 (.g (decide (length ([(1 : Int)] : Y1) * 8 ≤ 140737488355328)) <|
 .l ((wrap .i64 ((1 : Int) + r1_.1)), (r17_.1, (r18_.1, ((0 : Int), (([(1 : Int)] : Y1), (r19_.2.1, (r19_.2.2.1, r19_.2.2.2))))))))
 (.l ((wrap .i64 ((1 : Int) + r1_.1)), (r17_.1, (r18_.1, ((0 : Int), (([] : Y1), (r19_.2.1, (r19_.2.2.1, r19_.2.2.2))))))))))))
 (.t ((wrap .i64 ((1 : Int) + r1_.1)) == (5 : Int))
 (.c (Int × (Y1 × (Int × Int))) (wal r5_ r1_.2.1 r1_.2.2.1 r1_.2.2.2) fun r23_ =>
 .c (Int × (Y1 × (Int × Int))) (wal r3_ r23_.2.1 r23_.2.2.1 r23_.2.2.2) fun r24_ =>
 .c (Int × (Y1 × (Int × Int))) (wad ([(0 : Int), (3 : Int), (10 : Int), (99 : Int), (100 : Int)] : Y1) r24_.2.1 r24_.2.2.1 r24_.2.2.2) fun r25_ =>
 .c (Int × (Y1 × (Int × Int))) (wal (32 : Int) r25_.2.1 r25_.2.2.1 r25_.2.2.2) fun r26_ =>
 .t (r26_.1 == 0)
 (.c (Int × (Y1 × (Int × Int))) (wad ([(-1 : Int), (7 : Int), (4611686018427387904 : Int)] : Y1) r26_.2.1 r26_.2.2.1 r26_.2.2.2) fun r27_ =>
 .l ((wrap .i64 ((1 : Int) + r1_.1)), (r27_.1, (r24_.1, (r25_.1, (([] : Y1), (r27_.2.1, (r27_.2.2.1, r27_.2.2.2))))))))
 (.t (r26_.1 == 1)
 (.c (Int × (Y1 × (Int × Int))) (wad ([(-1 : Int), (1 : Int)] : Y1) r26_.2.1 r26_.2.2.1 r26_.2.2.2) fun r28_ =>
 .l ((wrap .i64 ((1 : Int) + r1_.1)), (r23_.1, (r24_.1, (r28_.1, (([] : Y1), (r28_.2.1, (r28_.2.2.1, r28_.2.2.2))))))))
 (.t (r26_.1 == 2)
 (.c (Int × (Y1 × (Int × Int))) (wad ([(0 : Int), (12 : Int), (-1 : Int)] : Y1) r26_.2.1 r26_.2.2.1 r26_.2.2.2) fun r29_ =>
 .l (r29_.1, (r23_.1, (r24_.1, (r25_.1, (([] : Y1), (r29_.2.1, (r29_.2.2.1, r29_.2.2.2))))))))
 (.t (r26_.1 == 3)
 (.g (decide (length ([(1 : Int)] : Y1) * 8 ≤ 140737488355328)) <|
 .l ((wrap .i64 ((1 : Int) + r1_.1)), (r23_.1, (r24_.1, (r25_.1, (([(1 : Int)] : Y1), (r26_.2.1, (r26_.2.2.1, r26_.2.2.2))))))))
 (.l ((wrap .i64 ((1 : Int) + r1_.1)), (r23_.1, (r24_.1, (r25_.1, (([] : Y1), (r26_.2.1, (r26_.2.2.1, r26_.2.2.2))))))))))))
 (.t ((wrap .i64 ((1 : Int) + r1_.1)) == (6 : Int))
 (.c (Int × (Y1 × (Int × Int))) (wal (20 : Int) r1_.2.1 r1_.2.2.1 r1_.2.2.2) fun r30_ =>
 .c (Y1 × (Y1 × (Int × Int))) (woi ((length a5_ : Nat) : Int) r30_.2.1 r30_.2.2.1 r30_.2.2.2) fun r31_ =>
 .c (Int × (Y1 × (Int × Int))) (wal (32 : Int) r31_.2.1 r31_.2.2.1 r31_.2.2.2) fun r32_ =>
 .t (r32_.1 == 0)
 (.c (Int × (Y1 × (Int × Int))) (wad ([(-1 : Int), (7 : Int), (4611686018427387904 : Int)] : Y1) r32_.2.1 r32_.2.2.1 r32_.2.2.2) fun r33_ =>
 .l ((wrap .i64 ((1 : Int) + r1_.1)), (r33_.1, ((0 : Int), ((0 : Int), (r31_.1, (r33_.2.1, (r33_.2.2.1, r33_.2.2.2))))))))
 (.t (r32_.1 == 1)
 (.c (Int × (Y1 × (Int × Int))) (wad ([(-1 : Int), (1 : Int)] : Y1) r32_.2.1 r32_.2.2.1 r32_.2.2.2) fun r34_ =>
 .l ((wrap .i64 ((1 : Int) + r1_.1)), (r30_.1, ((0 : Int), (r34_.1, (r31_.1, (r34_.2.1, (r34_.2.2.1, r34_.2.2.2))))))))
 (.t (r32_.1 == 2)
 (.c (Int × (Y1 × (Int × Int))) (wad ([(0 : Int), (12 : Int), (-1 : Int)] : Y1) r32_.2.1 r32_.2.2.1 r32_.2.2.2) fun r35_ =>
 .l (r35_.1, (r30_.1, ((0 : Int), ((0 : Int), (r31_.1, (r35_.2.1, (r35_.2.2.1, r35_.2.2.2))))))))
 (.t (r32_.1 == 3)
 (.g (decide ((length r31_.1 + length ([(1 : Int)] : Y1)) * 8 ≤ 140737488355328)) <|
 .l ((wrap .i64 ((1 : Int) + r1_.1)), (r30_.1, ((0 : Int), ((0 : Int), ((r31_.1 ++ ([(1 : Int)] : Y1)), (r32_.2.1, (r32_.2.2.1, r32_.2.2.2))))))))
 (.l ((wrap .i64 ((1 : Int) + r1_.1)), (r30_.1, ((0 : Int), ((0 : Int), (r31_.1, (r32_.2.1, (r32_.2.2.1, r32_.2.2.2))))))))))))
 (.t ((wrap .i64 ((1 : Int) + r1_.1)) == (7 : Int))
 (.c (Y1 × (Y1 × (Int × Int))) (woi ((length a4_ : Nat) : Int) r1_.2.1 r1_.2.2.1 r1_.2.2.2) fun r36_ =>
 .c (Int × (Y1 × (Int × Int))) (wal (32 : Int) r36_.2.1 r36_.2.2.1 r36_.2.2.2) fun r37_ =>
 .t (r37_.1 == 0)
 (.c (Int × (Y1 × (Int × Int))) (wad ([(-1 : Int), (7 : Int), (4611686018427387904 : Int)] : Y1) r37_.2.1 r37_.2.2.1 r37_.2.2.2) fun r38_ =>
 .l ((wrap .i64 ((1 : Int) + r1_.1)), (r38_.1, ((0 : Int), ((0 : Int), (r36_.1, (r38_.2.1, (r38_.2.2.1, r38_.2.2.2))))))))
 (.t (r37_.1 == 1)
 (.c (Int × (Y1 × (Int × Int))) (wad ([(-1 : Int), (1 : Int)] : Y1) r37_.2.1 r37_.2.2.1 r37_.2.2.2) fun r39_ =>
 .l ((wrap .i64 ((1 : Int) + r1_.1)), ((0 : Int), ((0 : Int), (r39_.1, (r36_.1, (r39_.2.1, (r39_.2.2.1, r39_.2.2.2))))))))
 (.t (r37_.1 == 2)
 (.c (Int × (Y1 × (Int × Int))) (wad ([(0 : Int), (12 : Int), (-1 : Int)] : Y1) r37_.2.1 r37_.2.2.1 r37_.2.2.2) fun r40_ =>
 .l (r40_.1, ((0 : Int), ((0 : Int), ((0 : Int), (r36_.1, (r40_.2.1, (r40_.2.2.1, r40_.2.2.2))))))))
 (.t (r37_.1 == 3)
 (.g (decide ((length r36_.1 + length ([(1 : Int)] : Y1)) * 8 ≤ 140737488355328)) <|
 .l ((wrap .i64 ((1 : Int) + r1_.1)), ((0 : Int), ((0 : Int), ((0 : Int), ((r36_.1 ++ ([(1 : Int)] : Y1)), (r37_.2.1, (r37_.2.2.1, r37_.2.2.2))))))))
 (.l ((wrap .i64 ((1 : Int) + r1_.1)), ((0 : Int), ((0 : Int), ((0 : Int), (r36_.1, (r37_.2.1, (r37_.2.2.1, r37_.2.2.2))))))))))))
 (.t ((wrap .i64 ((1 : Int) + r1_.1)) == (9 : Int))
 (.c (Int × (Y1 × (Int × Int))) (wal r5_ r1_.2.1 r1_.2.2.1 r1_.2.2.2) fun r41_ =>
 .c (Int × (Y1 × (Int × Int))) (wal (32 : Int) r41_.2.1 r41_.2.2.1 r41_.2.2.2) fun r42_ =>
 .t (r42_.1 == 0)
 (.c (Int × (Y1 × (Int × Int))) (wad ([(-1 : Int), (7 : Int), (4611686018427387904 : Int)] : Y1) r42_.2.1 r42_.2.2.1 r42_.2.2.2) fun r43_ =>
 .l ((wrap .i64 ((1 : Int) + r1_.1)), (r43_.1, ((0 : Int), ((0 : Int), (([] : Y1), (r43_.2.1, (r43_.2.2.1, r43_.2.2.2))))))))
 (.t (r42_.1 == 1)
 (.c (Int × (Y1 × (Int × Int))) (wad ([(-1 : Int), (1 : Int)] : Y1) r42_.2.1 r42_.2.2.1 r42_.2.2.2) fun r44_ =>
 .l ((wrap .i64 ((1 : Int) + r1_.1)), (r41_.1, ((0 : Int), (r44_.1, (([] : Y1), (r44_.2.1, (r44_.2.2.1, r44_.2.2.2))))))))
 (.t (r42_.1 == 2)
 (.c (Int × (Y1 × (Int × Int))) (wad ([(0 : Int), (12 : Int), (-1 : Int)] : Y1) r42_.2.1 r42_.2.2.1 r42_.2.2.2) fun r45_ =>
 .l (r45_.1, (r41_.1, ((0 : Int), ((0 : Int), (([] : Y1), (r45_.2.1, (r45_.2.2.1, r45_.2.2.2))))))))
 (.t (r42_.1 == 3)
 (.g (decide (length ([(1 : Int)] : Y1) * 8 ≤ 140737488355328)) <|
 .l ((wrap .i64 ((1 : Int) + r1_.1)), (r41_.1, ((0 : Int), ((0 : Int), (([(1 : Int)] : Y1), (r42_.2.1, (r42_.2.2.1, r42_.2.2.2))))))))
 (.l ((wrap .i64 ((1 : Int) + r1_.1)), (r41_.1, ((0 : Int), ((0 : Int), (([] : Y1), (r42_.2.1, (r42_.2.2.1, r42_.2.2.2))))))))))))
 (.c (Int × (Y1 × (Int × Int))) (wal (32 : Int) r1_.2.1 r1_.2.2.1 r1_.2.2.2) fun r46_ =>
 .t (r46_.1 == 0)
 (.c (Int × (Y1 × (Int × Int))) (wad ([(-1 : Int), (7 : Int), (4611686018427387904 : Int)] : Y1) r46_.2.1 r46_.2.2.1 r46_.2.2.2) fun r47_ =>
 .l ((wrap .i64 ((1 : Int) + r1_.1)), (r47_.1, ((0 : Int), ((0 : Int), (([] : Y1), (r47_.2.1, (r47_.2.2.1, r47_.2.2.2))))))))
 (.t (r46_.1 == 1)
 (.c (Int × (Y1 × (Int × Int))) (wad ([(-1 : Int), (1 : Int)] : Y1) r46_.2.1 r46_.2.2.1 r46_.2.2.2) fun r48_ =>
 .l ((wrap .i64 ((1 : Int) + r1_.1)), ((0 : Int), ((0 : Int), (r48_.1, (([] : Y1), (r48_.2.1, (r48_.2.2.1, r48_.2.2.2))))))))
 (.t (r46_.1 == 2)
 (.c (Int × (Y1 × (Int × Int))) (wad ([(0 : Int), (12 : Int), (-1 : Int)] : Y1) r46_.2.1 r46_.2.2.1 r46_.2.2.2) fun r49_ =>
 .l (r49_.1, ((0 : Int), ((0 : Int), ((0 : Int), (([] : Y1), (r49_.2.1, (r49_.2.2.1, r49_.2.2.2))))))))
 (.t (r46_.1 == 3)
 (.g (decide (length ([(1 : Int)] : Y1) * 8 ≤ 140737488355328)) <|
 .l ((wrap .i64 ((1 : Int) + r1_.1)), ((0 : Int), ((0 : Int), ((0 : Int), (([(1 : Int)] : Y1), (r46_.2.1, (r46_.2.2.1, r46_.2.2.2))))))))
 (.l ((wrap .i64 ((1 : Int) + r1_.1)), ((0 : Int), ((0 : Int), ((0 : Int), (([] : Y1), (r46_.2.1, (r46_.2.2.1, r46_.2.2.2)))))))))))))))))))
 (.t ((wrap .i64 ((1 : Int) + r1_.1)) == (2 : Int))
 (.t ((wrap .i64 ((1 : Int) + r1_.1)) == (2 : Int))
 (.c (Int × (Y1 × (Int × Int))) (wal r3_ r1_.2.1 r1_.2.2.1 r1_.2.2.2) fun r50_ =>
 .c (Int × (Y1 × (Int × Int))) (wal (32 : Int) r50_.2.1 r50_.2.2.1 r50_.2.2.2) fun r51_ =>
 .t (r51_.1 == 0)
 (.c (Int × (Y1 × (Int × Int))) (wad ([(-1 : Int), (7 : Int), (4611686018427387904 : Int)] : Y1) r51_.2.1 r51_.2.2.1 r51_.2.2.2) fun r52_ =>
 .l ((wrap .i64 ((1 : Int) + r1_.1)), (r52_.1, ((0 : Int), ((0 : Int), (([] : Y1), (r52_.2.1, (r52_.2.2.1, r52_.2.2.2))))))))
 (.t (r51_.1 == 1)
 (.c (Int × (Y1 × (Int × Int))) (wad ([(-1 : Int), (1 : Int)] : Y1) r51_.2.1 r51_.2.2.1 r51_.2.2.2) fun r53_ =>
 .l ((wrap .i64 ((1 : Int) + r1_.1)), (r50_.1, ((0 : Int), (r53_.1, (([] : Y1), (r53_.2.1, (r53_.2.2.1, r53_.2.2.2))))))))
 (.t (r51_.1 == 2)
 (.c (Int × (Y1 × (Int × Int))) (wad ([(0 : Int), (12 : Int), (-1 : Int)] : Y1) r51_.2.1 r51_.2.2.1 r51_.2.2.2) fun r54_ =>
 .l (r54_.1, (r50_.1, ((0 : Int), ((0 : Int), (([] : Y1), (r54_.2.1, (r54_.2.2.1, r54_.2.2.2))))))))
 (.t (r51_.1 == 3)
 (.g (decide (length ([(1 : Int)] : Y1) * 8 ≤ 140737488355328)) <|
 .l ((wrap .i64 ((1 : Int) + r1_.1)), (r50_.1, ((0 : Int), ((0 : Int), (([(1 : Int)] : Y1), (r51_.2.1, (r51_.2.2.1, r51_.2.2.2))))))))
 (.l ((wrap .i64 ((1 : Int) + r1_.1)), (r50_.1, ((0 : Int), ((0 : Int), (([] : Y1), (r51_.2.1, (r51_.2.2.1, r51_.2.2.2))))))))))))
 (.t ((wrap .i64 ((1 : Int) + r1_.1)) == (3 : Int))
 (.c (Int × (Y1 × (Int × Int))) (wal r3_ r1_.2.1 r1_.2.2.1 r1_.2.2.2) fun r55_ =>
 .c (Int × (Y1 × (Int × Int))) (wal r3_ r55_.2.1 r55_.2.2.1 r55_.2.2.2) fun r56_ =>
 .c (Int × (Y1 × (Int × Int))) (wal (32 : Int) r56_.2.1 r56_.2.2.1 r56_.2.2.2) fun r57_ =>
 .t (r57_.1 == 0)
 (.c (Int × (Y1 × (Int × Int))) (wad ([(-1 : Int), (7 : Int), (4611686018427387904 : Int)] : Y1) r57_.2.1 r57_.2.2.1 r57_.2.2.2) fun r58_ =>
 .l ((wrap .i64 ((1 : Int) + r1_.1)), (r58_.1, (r56_.1, ((0 : Int), (([] : Y1), (r58_.2.1, (r58_.2.2.1, r58_.2.2.2))))))))
 (.t (r57_.1 == 1)
 (.c (Int × (Y1 × (Int × Int))) (wad ([(-1 : Int), (1 : Int)] : Y1) r57_.2.1 r57_.2.2.1 r57_.2.2.2) fun r59_ =>
 .l ((wrap .i64 ((1 : Int) + r1_.1)), (r55_.1, (r56_.1, (r59_.1, (([] : Y1), (r59_.2.1, (r59_.2.2.1, r59_.2.2.2))))))))
 (.t (r57_.1 == 2)
 (.c (Int × (Y1 × (Int × Int))) (wad ([(0 : Int), (12 : Int), (-1 : Int)] : Y1) r57_.2.1 r57_.2.2.1 r57_.2.2.2) fun r60_ =>
 .l (r60_.1, (r55_.1, (r56_.1, ((0 : Int), (([] : Y1), (r60_.2.1, (r60_.2.2.1, r60_.2.2.2))))))))
 (.t (r57_.1 == 3)
 (.g (decide (length ([(1 : Int)] : Y1) * 8 ≤ 140737488355328)) <|
 .l ((wrap .i64 ((1 : Int) + r1_.1)), (r55_.1, (r56_.1, ((0 : Int), (([(1 : Int)] : Y1), (r57_.2.1, (r57_.2.2.1, r57_.2.2.2))))))))
 (.l ((wrap .i64 ((1 : Int) + r1_.1)), (r55_.1, (r56_.1, ((0 : Int), (([] : Y1), (r57_.2.1, (r57_.2.2.1, r57_.2.2.2))))))))))))
 (.t ((wrap .i64 ((1 : Int) + r1_.1)) == (4 : Int))
 (.c (Int × (Y1 × (Int × Int))) (wal r3_ r1_.2.1 r1_.2.2.1 r1_.2.2.2) fun r61_ =>
 .c (Int × (Y1 × (Int × Int))) (wad ([(0 : Int), (3 : Int), (10 : Int), (99 : Int), (100 : Int)] : Y1) r61_.2.1 r61_.2.2.1 r61_.2.2.2) fun r62_ =>
 .c (Int × (Y1 × (Int × Int))) (wal (32 : Int) r62_.2.1 r62_.2.2.1 r62_.2.2.2) fun r63_ =>
 .t (r63_.1 == 0)
 (.c (Int × (Y1 × (Int × Int))) (wad ([(-1 : Int), (7 : Int), (4611686018427387904 : Int)] : Y1) r63_.2.1 r63_.2.2.1 r63_.2.2.2) fun r64_ =>
 .l ((wrap .i64 ((1 : Int) + r1_.1)), (r64_.1, (r62_.1, ((0 : Int), (([] : Y1), (r64_.2.1, (r64_.2.2.1, r64_.2.2.2))))))))
 (.t (r63_.1 == 1)
 (.c (Int × (Y1 × (Int × Int))) (wad ([(-1 : Int), (1 : Int)] : Y1) r63_.2.1 r63_.2.2.1 r63_.2.2.2) fun r65_ =>
 .l ((wrap .i64 ((1 : Int) + r1_.1)), (r61_.1, (r62_.1, (r65_.1, (([] : Y1), (r65_.2.1, (r65_.2.2.1, r65_.2.2.2))))))))
 (.t (r63_.1 == 2)
 (.c (Int × (Y1 × (Int × Int))) (wad ([(0 : Int), (12 : Int), (-1 : Int)] : Y1) r63_.2.1 r63_.2.2.1 r63_.2.2.2) fun r66_ =>
 .l (r66_.1, (r61_.1, (r62_.1, ((0 : Int), (([] : Y1), (r66_.2.1, (r66_.2.2.1, r66_.2.2.2))))))))
 (.t (r63_.1 == 3)
 (.g (decide (length ([(1 : Int)] : Y1) * 8 ≤ 140737488355328)) <|
 .l ((wrap .i64 ((1 : Int) + r1_.1)), (r61_.1, (r62_.1, ((0 : Int), (([(1 : Int)] : Y1), (r63_.2.1, (r63_.2.2.1, r63_.2.2.2))))))))
 (.l ((wrap .i64 ((1 : Int) + r1_.1)), (r61_.1, (r62_.1, ((0 : Int), (([] : Y1), (r63_.2.1, (r63_.2.2.1, r63_.2.2.2))))))))))))
 (.t ((wrap .i64 ((1 : Int) + r1_.1)) == (5 : Int))
 (.c (Int × (Y1 × (Int × Int))) (wal r5_ r1_.2.1 r1_.2.2.1 r1_.2.2.2) fun r67_ =>
 .c (Int × (Y1 × (Int × Int))) (wal r3_ r67_.2.1 r67_.2.2.1 r67_.2.2.2) fun r68_ =>
 .c (Int × (Y1 × (Int × Int))) (wad ([(0 : Int), (3 : Int), (10 : Int), (99 : Int), (100 : Int)] : Y1) r68_.2.1 r68_.2.2.1 r68_.2.2.2) fun r69_ =>
 .c (Int × (Y1 × (Int × Int))) (wal (32 : Int) r69_.2.1 r69_.2.2.1 r69_.2.2.2) fun r70_ =>
 .t (r70_.1 == 0)
 (.c (Int × (Y1 × (Int × Int))) (wad ([(-1 : Int), (7 : Int), (4611686018427387904 : Int)] : Y1) r70_.2.1 r70_.2.2.1 r70_.2.2.2) fun r71_ =>
 .l ((wrap .i64 ((1 : Int) + r1_.1)), (r71_.1, (r68_.1, (r69_.1, (([] : Y1), (r71_.2.1, (r71_.2.2.1, r71_.2.2.2))))))))
 (.t (r70_.1 == 1)
 (.c (Int × (Y1 × (Int × Int))) (wad ([(-1 : Int), (1 : Int)] : Y1) r70_.2.1 r70_.2.2.1 r70_.2.2.2) fun r72_ =>
 .l ((wrap .i64 ((1 : Int) + r1_.1)), (r67_.1, (r68_.1, (r72_.1, (([] : Y1), (r72_.2.1, (r72_.2.2.1, r72_.2.2.2))))))))
 (.t (r70_.1 == 2)
 (.c (Int × (Y1 × (Int × Int))) (wad ([(0 : Int), (12 : Int), (-1 : Int)] : Y1) r70_.2.1 r70_.2.2.1 r70_.2.2.2) fun r73_ =>
 .l (r73_.1, (r67_.1, (r68_.1, (r69_.1, (([] : Y1), (r73_.2.1, (r73_.2.2.1, r73_.2.2.2))))))))
 (.t (r70_.1 == 3)
 (.g (decide (length ([(1 : Int)] : Y1) * 8 ≤ 140737488355328)) <|
 .l ((wrap .i64 ((1 : Int) + r1_.1)), (r67_.1, (r68_.1, (r69_.1, (([(1 : Int)] : Y1), (r70_.2.1, (r70_.2.2.1, r70_.2.2.2))))))))
 (.l ((wrap .i64 ((1 : Int) + r1_.1)), (r67_.1, (r68_.1, (r69_.1, (([] : Y1), (r70_.2.1, (r70_.2.2.1, r70_.2.2.2))))))))))))
 (.t ((wrap .i64 ((1 : Int) + r1_.1)) == (6 : Int))
 (.c (Int × (Y1 × (Int × Int))) (wal (20 : Int) r1_.2.1 r1_.2.2.1 r1_.2.2.2) fun r74_ =>
 .c (Y1 × (Y1 × (Int × Int))) (woi ((length a5_ : Nat) : Int) r74_.2.1 r74_.2.2.1 r74_.2.2.2) fun r75_ =>
 .c (Int × (Y1 × (Int × Int))) (wal (32 : Int) r75_.2.1 r75_.2.2.1 r75_.2.2.2) fun r76_ =>
 .t (r76_.1 == 0)
 (.c (Int × (Y1 × (Int × Int))) (wad ([(-1 : Int), (7 : Int), (4611686018427387904 : Int)] : Y1) r76_.2.1 r76_.2.2.1 r76_.2.2.2) fun r77_ =>
 .l ((wrap .i64 ((1 : Int) + r1_.1)), (r77_.1, ((0 : Int), ((0 : Int), (r75_.1, (r77_.2.1, (r77_.2.2.1, r77_.2.2.2))))))))
 (.t (r76_.1 == 1)
 (.c (Int × (Y1 × (Int × Int))) (wad ([(-1 : Int), (1 : Int)] : Y1) r76_.2.1 r76_.2.2.1 r76_.2.2.2) fun r78_ =>
 .l ((wrap .i64 ((1 : Int) + r1_.1)), (r74_.1, ((0 : Int), (r78_.1, (r75_.1, (r78_.2.1, (r78_.2.2.1, r78_.2.2.2))))))))
 (.t (r76_.1 == 2)
 (.c (Int × (Y1 × (Int × Int))) (wad ([(0 : Int), (12 : Int), (-1 : Int)] : Y1) r76_.2.1 r76_.2.2.1 r76_.2.2.2) fun r79_ =>
 .l (r79_.1, (r74_.1, ((0 : Int), ((0 : Int), (r75_.1, (r79_.2.1, (r79_.2.2.1, r79_.2.2.2))))))))
 (.t (r76_.1 == 3)
 (.g (decide ((length r75_.1 + length ([(1 : Int)] : Y1)) * 8 ≤ 140737488355328)) <|
 .l ((wrap .i64 ((1 : Int) + r1_.1)), (r74_.1, ((0 : Int), ((0 : Int), ((r75_.1 ++ ([(1 : Int)] : Y1)), (r76_.2.1, (r76_.2.2.1, r76_.2.2.2))))))))
 (.l ((wrap .i64 ((1 : Int) + r1_.1)), (r74_.1, ((0 : Int), ((0 : Int), (r75_.1, (r76_.2.1, (r76_.2.2.1, r76_.2.2.2))))))))))))
 (.t ((wrap .i64 ((1 : Int) + r1_.1)) == (7 : Int))
 (.c (Y1 × (Y1 × (Int × Int))) (woi ((length a4_ : Nat) : Int) r1_.2.1 r1_.2.2.1 r1_.2.2.2) fun r80_ =>
 .c (Int × (Y1 × (Int × Int))) (wal (32 : Int) r80_.2.1 r80_.2.2.1 r80_.2.2.2) fun r81_ =>
 .t (r81_.1 == 0)
 (.c (Int × (Y1 × (Int × Int))) (wad ([(-1 : Int), (7 : Int), (4611686018427387904 : Int)] : Y1) r81_.2.1 r81_.2.2.1 r81_.2.2.2) fun r82_ =>
 .l ((wrap .i64 ((1 : Int) + r1_.1)), (r82_.1, ((0 : Int), ((0 : Int), (r80_.1, (r82_.2.1, (r82_.2.2.1, r82_.2.2.2))))))))
 (.t (r81_.1 == 1)
 (.c (Int × (Y1 × (Int × Int))) (wad ([(-1 : Int), (1 : Int)] : Y1) r81_.2.1 r81_.2.2.1 r81_.2.2.2) fun r83_ =>
 .l ((wrap .i64 ((1 : Int) + r1_.1)), ((0 : Int), ((0 : Int), (r83_.1, (r80_.1, (r83_.2.1, (r83_.2.2.1, r83_.2.2.2))))))))
 (.t (r81_.1 == 2)
 (.c (Int × (Y1 × (Int × Int))) (wad ([(0 : Int), (12 : Int), (-1 : Int)] : Y1) r81_.2.1 r81_.2.2.1 r81_.2.2.2) fun r84_ =>
 .l (r84_.1, ((0 : Int), ((0 : Int), ((0 : Int), (r80_.1, (r84_.2.1, (r84_.2.2.1, r84_.2.2.2))))))))
 (.t (r81_.1 == 3)
 (.g (decide ((length r80_.1 + length ([(1 : Int)] : Y1)) * 8 ≤ 140737488355328)) <|
 .l ((wrap .i64 ((1 : Int) + r1_.1)), ((0 : Int), ((0 : Int), ((0 : Int), ((r80_.1 ++ ([(1 : Int)] : Y1)), (r81_.2.1, (r81_.2.2.1, r81_.2.2.2))))))))
 (.l ((wrap .i64 ((1 : Int) + r1_.1)), ((0 : Int), ((0 : Int), ((0 : Int), (r80_.1, (r81_.2.1, (r81_.2.2.1, r81_.2.2.2))))))))))))
 (.t ((wrap .i64 ((1 : Int) + r1_.1)) == (9 : Int))
 (.c (Int × (Y1 × (Int × Int))) (wal r5_ r1_.2.1 r1_.2.2.1 r1_.2.2.2) fun r85_ =>
 .c (Int × (Y1 × (Int × Int))) (wal (32 : Int) r85_.2.1 r85_.2.2.1 r85_.2.2.2) fun r86_ =>
 .t (r86_.1 == 0)
 (.c (Int × (Y1 × (Int × Int))) (wad ([(-1 : Int), (7 : Int), (4611686018427387904 : Int)] : Y1) r86_.2.1 r86_.2.2.1 r86_.2.2.2) fun r87_ =>
 .l ((wrap .i64 ((1 : Int) + r1_.1)), (r87_.1, ((0 : Int), ((0 : Int), (([] : Y1), (r87_.2.1, (r87_.2.2.1, r87_.2.2.2))))))))
 (.t (r86_.1 == 1)
 (.c (Int × (Y1 × (Int × Int))) (wad ([(-1 : Int), (1 : Int)] : Y1) r86_.2.1 r86_.2.2.1 r86_.2.2.2) fun r88_ =>
 .l ((wrap .i64 ((1 : Int) + r1_.1)), (r85_.1, ((0 : Int), (r88_.1, (([] : Y1), (r88_.2.1, (r88_.2.2.1, r88_.2.2.2))))))))
 (.t (r86_.1 == 2)
 (.c (Int × (Y1 × (Int × Int))) (wad ([(0 : Int), (12 : Int), (-1 : Int)] : Y1) r86_.2.1 r86_.2.2.1 r86_.2.2.2) fun r89_ =>
 .l (r89_.1, (r85_.1, ((0 : Int), ((0 : Int), (([] : Y1), (r89_.2.1, (r89_.2.2.1, r89_.2.2.2))))))))
 (.t (r86_.1 == 3)
 (.g (decide (length ([(1 : Int)] : Y1) * 8 ≤ 140737488355328)) <|
 .l ((wrap .i64 ((1 : Int) + r1_.1)), (r85_.1, ((0 : Int), ((0 : Int), (([(1 : Int)] : Y1), (r86_.2.1, (r86_.2.2.1, r86_.2.2.2))))))))
 (.l ((wrap .i64 ((1 : Int) + r1_.1)), (r85_.1, ((0 : Int), ((0 : Int), (([] : Y1), (r86_.2.1, (r86_.2.2.1, r86_.2.2.2))))))))))))
 (.c (Int × (Y1 × (Int × Int))) (wal (32 : Int) r1_.2.1 r1_.2.2.1 r1_.2.2.2) fun r90_ =>
 .t (r90_.1 == 0)
 (.c (Int × (Y1 × (Int × Int))) (wad ([(-1 : Int), (7 : Int), (4611686018427387904 : Int)] : Y1) r90_.2.1 r90_.2.2.1 r90_.2.2.2) fun r91_ =>
 .l ((wrap .i64 ((1 : Int) + r1_.1)), (r91_.1, ((0 : Int), ((0 : Int), (([] : Y1), (r91_.2.1, (r91_.2.2.1, r91_.2.2.2))))))))
 (.t (r90_.1 == 1)
 (.c (Int × (Y1 × (Int × Int))) (wad ([(-1 : Int), (1 : Int)] : Y1) r90_.2.1 r90_.2.2.1 r90_.2.2.2) fun r92_ =>
 .l ((wrap .i64 ((1 : Int) + r1_.1)), ((0 : Int), ((0 : Int), (r92_.1, (([] : Y1), (r92_.2.1, (r92_.2.2.1, r92_.2.2.2))))))))
 (.t (r90_.1 == 2)
 (.c (Int × (Y1 × (Int × Int))) (wad ([(0 : Int), (12 : Int), (-1 : Int)] : Y1) r90_.2.1 r90_.2.2.1 r90_.2.2.2) fun r93_ =>
 .l (r93_.1, ((0 : Int), ((0 : Int), ((0 : Int), (([] : Y1), (r93_.2.1, (r93_.2.2.1, r93_.2.2.2))))))))
 (.t (r90_.1 == 3)
 (.g (decide (length ([(1 : Int)] : Y1) * 8 ≤ 140737488355328)) <|
 .l ((wrap .i64 ((1 : Int) + r1_.1)), ((0 : Int), ((0 : Int), ((0 : Int), (([(1 : Int)] : Y1), (r90_.2.1, (r90_.2.2.1, r90_.2.2.2))))))))
 (.l ((wrap .i64 ((1 : Int) + r1_.1)), ((0 : Int), ((0 : Int), ((0 : Int), (([] : Y1), (r90_.2.1, (r90_.2.2.1, r90_.2.2.2)))))))))))))))))))
 (.t ((wrap .i64 ((1 : Int) + r1_.1)) == (8 : Int))
 (.c (Int × (Y1 × (Int × Int))) (wal r3_ r1_.2.1 r1_.2.2.1 r1_.2.2.2) fun r94_ =>
 .c (Int × (Y1 × (Int × Int))) (wal (32 : Int) r94_.2.1 r94_.2.2.1 r94_.2.2.2) fun r95_ =>
 .t (r95_.1 == 0)
 (.c (Int × (Y1 × (Int × Int))) (wad ([(-1 : Int), (7 : Int), (4611686018427387904 : Int)] : Y1) r95_.2.1 r95_.2.2.1 r95_.2.2.2) fun r96_ =>
 .l ((wrap .i64 ((1 : Int) + r1_.1)), (r96_.1, ((0 : Int), ((0 : Int), (([] : Y1), (r96_.2.1, (r96_.2.2.1, r96_.2.2.2))))))))
 (.t (r95_.1 == 1)
 (.c (Int × (Y1 × (Int × Int))) (wad ([(-1 : Int), (1 : Int)] : Y1) r95_.2.1 r95_.2.2.1 r95_.2.2.2) fun r97_ =>
 .l ((wrap .i64 ((1 : Int) + r1_.1)), (r94_.1, ((0 : Int), (r97_.1, (([] : Y1), (r97_.2.1, (r97_.2.2.1, r97_.2.2.2))))))))
 (.t (r95_.1 == 2)
 (.c (Int × (Y1 × (Int × Int))) (wad ([(0 : Int), (12 : Int), (-1 : Int)] : Y1) r95_.2.1 r95_.2.2.1 r95_.2.2.2) fun r98_ =>
 .l (r98_.1, (r94_.1, ((0 : Int), ((0 : Int), (([] : Y1), (r98_.2.1, (r98_.2.2.1, r98_.2.2.2))))))))
 (.t (r95_.1 == 3)
 (.g (decide (length ([(1 : Int)] : Y1) * 8 ≤ 140737488355328)) <|
 .l ((wrap .i64 ((1 : Int) + r1_.1)), (r94_.1, ((0 : Int), ((0 : Int), (([(1 : Int)] : Y1), (r95_.2.1, (r95_.2.2.1, r95_.2.2.2))))))))
 (.l ((wrap .i64 ((1 : Int) + r1_.1)), (r94_.1, ((0 : Int), ((0 : Int), (([] : Y1), (r95_.2.1, (r95_.2.2.1, r95_.2.2.2))))))))))))
 (.t ((wrap .i64 ((1 : Int) + r1_.1)) == (3 : Int))
 (.c (Int × (Y1 × (Int × Int))) (wal r3_ r1_.2.1 r1_.2.2.1 r1_.2.2.2) fun r99_ =>
 .c (Int × (Y1 × (Int × Int))) (wal r3_ r99_.2.1 r99_.2.2.1 r99_.2.2.2) fun r100_ =>
 .c (Int × (Y1 × (Int × Int))) (wal (32 : Int) r100_.2.1 r100_.2.2.1 r100_.2.2.2) fun r101_ =>
 .t (r101_.1 == 0)
 (.c (Int × (Y1 × (Int × Int))) (wad ([(-1 : Int), (7 : Int), (4611686018427387904 : Int)] : Y1) r101_.2.1 r101_.2.2.1 r101_.2.2.2) fun r102_ =>
 .l ((wrap .i64 ((1 : Int) + r1_.1)), (r102_.1, (r100_.1, ((0 : Int), (([] : Y1), (r102_.2.1, (r102_.2.2.1, r102_.2.2.2))))))))
 (.t (r101_.1 == 1)
 (.c (Int × (Y1 × (Int × Int))) (wad ([(-1 : Int), (1 : Int)] : Y1) r101_.2.1 r101_.2.2.1 r101_.2.2.2) fun r103_ =>
 .l ((wrap .i64 ((1 : Int) + r1_.1)), (r99_.1, (r100_.1, (r103_.1, (([] : Y1), (r103_.2.1, (r103_.2.2.1, r103_.2.2.2))))))))
 (.t (r101_.1 == 2)
 (.c (Int × (Y1 × (Int × Int))) (wad ([(0 : Int), (12 : Int), (-1 : Int)] : Y1) r101_.2.1 r101_.2.2.1 r101_.2.2.2) fun r104_ =>
 .l (r104_.1, (r99_.1, (r100_.1, ((0 : Int), (([] : Y1), (r104_.2.1, (r104_.2.2.1, r104_.2.2.2))))))))
 (.t (r101_.1 == 3)
 (.g (decide (length ([(1 : Int)] : Y1) * 8 ≤ 140737488355328)) <|
 .l ((wrap .i64 ((1 : Int) + r1_.1)), (r99_.1, (r100_.1, ((0 : Int), (([(1 : Int)] : Y1), (r101_.2.1, (r101_.2.2.1, r101_.2.2.2))))))))
 (.l ((wrap .i64 ((1 : Int) + r1_.1)), (r99_.1, (r100_.1, ((0 : Int), (([] : Y1), (r101_.2.1, (r101_.2.2.1, r101_.2.2.2))))))))))))
 (.t ((wrap .i64 ((1 : Int) + r1_.1)) == (4 : Int))
 (.c (Int × (Y1 × (Int × Int))) (wal r3_ r1_.2.1 r1_.2.2.1 r1_.2.2.2) fun r105_ =>
 .c (Int × (Y1 × (Int × Int))) (wad ([(0 : Int), (3 : Int), (10 : Int), (99 : Int), (100 : Int)] : Y1) r105_.2.1 r105_.2.2.1 r105_.2.2.2) fun r106_ =>
 .c (Int × (Y1 × (Int × Int))) (wal (32 : Int) r106_.2.1 r106_.2.2.1 r106_.2.2.2) fun r107_ =>
 .t (r107_.1 == 0)
 (.c (Int × (Y1 × (Int × Int))) (wad ([(-1 : Int), (7 : Int), (4611686018427387904 : Int)] : Y1) r107_.2.1 r107_.2.2.1 r107_.2.2.2) fun r108_ =>
 .l ((wrap .i64 ((1 : Int) + r1_.1)), (r108_.1, (r106_.1, ((0 : Int), (([] : Y1), (r108_.2.1, (r108_.2.2.1, r108_.2.2.2))))))))
 (.t (r107_.1 == 1)
 (.c (Int × (Y1 × (Int × Int))) (wad ([(-1 : Int), (1 : Int)] : Y1) r107_.2.1 r107_.2.2.1 r107_.2.2.2) fun r109_ =>
 .l ((wrap .i64 ((1 : Int) + r1_.1)), (r105_.1, (r106_.1, (r109_.1, (([] : Y1), (r109_.2.1, (r109_.2.2.1, r109_.2.2.2))))))))
 (.t (r107_.1 == 2)
 (.c (Int × (Y1 × (Int × Int))) (wad ([(0 : Int), (12 : Int), (-1 : Int)] : Y1) r107_.2.1 r107_.2.2.1 r107_.2.2.2) fun r110_ =>
 .l (r110_.1, (r105_.1, (r106_.1, ((0 : Int), (([] : Y1), (r110_.2.1, (r110_.2.2.1, r110_.2.2.2))))))))
 (.t (r107_.1 == 3)
 (.g (decide (length ([(1 : Int)] : Y1) * 8 ≤ 140737488355328)) <|
 .l ((wrap .i64 ((1 : Int) + r1_.1)), (r105_.1, (r106_.1, ((0 : Int), (([(1 : Int)] : Y1), (r107_.2.1, (r107_.2.2.1, r107_.2.2.2))))))))
 (.l ((wrap .i64 ((1 : Int) + r1_.1)), (r105_.1, (r106_.1, ((0 : Int), (([] : Y1), (r107_.2.1, (r107_.2.2.1, r107_.2.2.2))))))))))))
 (.t ((wrap .i64 ((1 : Int) + r1_.1)) == (5 : Int))
 (.c (Int × (Y1 × (Int × Int))) (wal r5_ r1_.2.1 r1_.2.2.1 r1_.2.2.2) fun r111_ =>
 .c (Int × (Y1 × (Int × Int))) (wal r3_ r111_.2.1 r111_.2.2.1 r111_.2.2.2) fun r112_ =>
 .c (Int × (Y1 × (Int × Int))) (wad ([(0 : Int), (3 : Int), (10 : Int), (99 : Int), (100 : Int)] : Y1) r112_.2.1 r112_.2.2.1 r112_.2.2.2) fun r113_ =>
 .c (Int × (Y1 × (Int × Int))) (wal (32 : Int) r113_.2.1 r113_.2.2.1 r113_.2.2.2) fun r114_ =>
 .t (r114_.1 == 0)
 (.c (Int × (Y1 × (Int × Int))) (wad ([(-1 : Int), (7 : Int), (4611686018427387904 : Int)] : Y1) r114_.2.1 r114_.2.2.1 r114_.2.2.2) fun r115_ =>
 .l ((wrap .i64 ((1 : Int) + r1_.1)), (r115_.1, (r112_.1, (r113_.1, (([] : Y1), (r115_.2.1, (r115_.2.2.1, r115_.2.2.2))))))))
 (.t (r114_.1 == 1)
 (.c (Int × (Y1 × (Int × Int))) (wad ([(-1 : Int), (1 : Int)] : Y1) r114_.2.1 r114_.2.2.1 r114_.2.2.2) fun r116_ =>
 .l ((wrap .i64 ((1 : Int) + r1_.1)), (r111_.1, (r112_.1, (r116_.1, (([] : Y1), (r116_.2.1, (r116_.2.2.1, r116_.2.2.2))))))))
 (.t (r114_.1 == 2)
 (.c (Int × (Y1 × (Int × Int))) (wad ([(0 : Int), (12 : Int), (-1 : Int)] : Y1) r114_.2.1 r114_.2.2.1 r114_.2.2.2) fun r117_ =>
 .l (r117_.1, (r111_.1, (r112_.1, (r113_.1, (([] : Y1), (r117_.2.1, (r117_.2.2.1, r117_.2.2.2))))))))
 (.t (r114_.1 == 3)
 (.g (decide (length ([(1 : Int)] : Y1) * 8 ≤ 140737488355328)) <|
 .l ((wrap .i64 ((1 : Int) + r1_.1)), (r111_.1, (r112_.1, (r113_.1, (([(1 : Int)] : Y1), (r114_.2.1, (r114_.2.2.1, r114_.2.2.2))))))))
 (.l ((wrap .i64 ((1 : Int) + r1_.1)), (r111_.1, (r112_.1, (r113_.1, (([] : Y1), (r114_.2.1, (r114_.2.2.1, r114_.2.2.2))))))))))))
 (.t ((wrap .i64 ((1 : Int) + r1_.1)) == (6 : Int))
 (.c (Int × (Y1 × (Int × Int))) (wal (20 : Int) r1_.2.1 r1_.2.2.1 r1_.2.2.2) fun r118_ =>
 .c (Y1 × (Y1 × (Int × Int))) (woi ((length a5_ : Nat) : Int) r118_.2.1 r118_.2.2.1 r118_.2.2.2) fun r119_ =>
 .c (Int × (Y1 × (Int × Int))) (wal (32 : Int) r119_.2.1 r119_.2.2.1 r119_.2.2.2) fun r120_ =>
 .t (r120_.1 == 0)
 (.c (Int × (Y1 × (Int × Int))) (wad ([(-1 : Int), (7 : Int), (4611686018427387904 : Int)] : Y1) r120_.2.1 r120_.2.2.1 r120_.2.2.2) fun r121_ =>
 .l ((wrap .i64 ((1 : Int) + r1_.1)), (r121_.1, ((0 : Int), ((0 : Int), (r119_.1, (r121_.2.1, (r121_.2.2.1, r121_.2.2.2))))))))
 (.t (r120_.1 == 1)
 (.c (Int × (Y1 × (Int × Int))) (wad ([(-1 : Int), (1 : Int)] : Y1) r120_.2.1 r120_.2.2.1 r120_.2.2.2) fun r122_ =>
 .l ((wrap .i64 ((1 : Int) + r1_.1)), (r118_.1, ((0 : Int), (r122_.1, (r119_.1, (r122_.2.1, (r122_.2.2.1, r122_.2.2.2))))))))
 (.t (r120_.1 == 2)
 (.c (Int × (Y1 × (Int × Int))) (wad ([(0 : Int), (12 : Int), (-1 : Int)] : Y1) r120_.2.1 r120_.2.2.1 r120_.2.2.2) fun r123_ =>
 .l (r123_.1, (r118_.1, ((0 : Int), ((0 : Int), (r119_.1, (r123_.2.1, (r123_.2.2.1, r123_.2.2.2))))))))
 (.t (r120_.1 == 3)
 (.g (decide ((length r119_.1 + length ([(1 : Int)] : Y1)) * 8 ≤ 140737488355328)) <|
 .l ((wrap .i64 ((1 : Int) + r1_.1)), (r118_.1, ((0 : Int), ((0 : Int), ((r119_.1 ++ ([(1 : Int)] : Y1)), (r120_.2.1, (r120_.2.2.1, r120_.2.2.2))))))))
 (.l ((wrap .i64 ((1 : Int) + r1_.1)), (r118_.1, ((0 : Int), ((0 : Int), (r119_.1, (r120_.2.1, (r120_.2.2.1, r120_.2.2.2))))))))))))
 (.t ((wrap .i64 ((1 : Int) + r1_.1)) == (7 : Int))
 (.c (Y1 × (Y1 × (Int × Int))) (woi ((length a4_ : Nat) : Int) r1_.2.1 r1_.2.2.1 r1_.2.2.2) fun r124_ =>
 .c (Int × (Y1 × (Int × Int))) (wal (32 : Int) r124_.2.1 r124_.2.2.1 r124_.2.2.2) fun r125_ =>
 .t (r125_.1 == 0)
 (.c (Int × (Y1 × (Int × Int))) (wad ([(-1 : Int), (7 : Int), (4611686018427387904 : Int)] : Y1) r125_.2.1 r125_.2.2.1 r125_.2.2.2) fun r126_ =>
 .l ((wrap .i64 ((1 : Int) + r1_.1)), (r126_.1, ((0 : Int), ((0 : Int), (r124_.1, (r126_.2.1, (r126_.2.2.1, r126_.2.2.2))))))))
 (.t (r125_.1 == 1)
 (.c (Int × (Y1 × (Int × Int))) (wad ([(-1 : Int), (1 : Int)] : Y1) r125_.2.1 r125_.2.2.1 r125_.2.2.2) fun r127_ =>
 .l ((wrap .i64 ((1 : Int) + r1_.1)), ((0 : Int), ((0 : Int), (r127_.1, (r124_.1, (r127_.2.1, (r127_.2.2.1, r127_.2.2.2))))))))
 (.t (r125_.1 == 2)
 (.c (Int × (Y1 × (Int × Int))) (wad ([(0 : Int), (12 : Int), (-1 : Int)] : Y1) r125_.2.1 r125_.2.2.1 r125_.2.2.2) fun r128_ =>
 .l (r128_.1, ((0 : Int), ((0 : Int), ((0 : Int), (r124_.1, (r128_.2.1, (r128_.2.2.1, r128_.2.2.2))))))))
 (.t (r125_.1 == 3)
 (.g (decide ((length r124_.1 + length ([(1 : Int)] : Y1)) * 8 ≤ 140737488355328)) <|
 .l ((wrap .i64 ((1 : Int) + r1_.1)), ((0 : Int), ((0 : Int), ((0 : Int), ((r124_.1 ++ ([(1 : Int)] : Y1)), (r125_.2.1, (r125_.2.2.1, r125_.2.2.2))))))))
 (.l ((wrap .i64 ((1 : Int) + r1_.1)), ((0 : Int), ((0 : Int), ((0 : Int), (r124_.1, (r125_.2.1, (r125_.2.2.1, r125_.2.2.2))))))))))))
 (.t ((wrap .i64 ((1 : Int) + r1_.1)) == (9 : Int))
 (.c (Int × (Y1 × (Int × Int))) (wal r5_ r1_.2.1 r1_.2.2.1 r1_.2.2.2) fun r129_ =>
 .c (Int × (Y1 × (Int × Int))) (wal (32 : Int) r129_.2.1 r129_.2.2.1 r129_.2.2.2) fun r130_ =>
 .t (r130_.1 == 0)
 (.c (Int × (Y1 × (Int × Int))) (wad ([(-1 : Int), (7 : Int), (4611686018427387904 : Int)] : Y1) r130_.2.1 r130_.2.2.1 r130_.2.2.2) fun r131_ =>
 .l ((wrap .i64 ((1 : Int) + r1_.1)), (r131_.1, ((0 : Int), ((0 : Int), (([] : Y1), (r131_.2.1, (r131_.2.2.1, r131_.2.2.2))))))))
 (.t (r130_.1 == 1)
 (.c (Int × (Y1 × (Int × Int))) (wad ([(-1 : Int), (1 : Int)] : Y1) r130_.2.1 r130_.2.2.1 r130_.2.2.2) fun r132_ =>
 .l ((wrap .i64 ((1 : Int) + r1_.1)), (r129_.1, ((0 : Int), (r132_.1, (([] : Y1), (r132_.2.1, (r132_.2.2.1, r132_.2.2.2))))))))
 (.t (r130_.1 == 2)
 (.c (Int × (Y1 × (Int × Int))) (wad ([(0 : Int), (12 : Int), (-1 : Int)] : Y1) r130_.2.1 r130_.2.2.1 r130_.2.2.2) fun r133_ =>
 .l (r133_.1, (r129_.1, ((0 : Int), ((0 : Int), (([] : Y1), (r133_.2.1, (r133_.2.2.1, r133_.2.2.2))))))))
 (.t (r130_.1 == 3)
 (.g (decide (length ([(1 : Int)] : Y1) * 8 ≤ 140737488355328)) <|
 .l ((wrap .i64 ((1 : Int) + r1_.1)), (r129_.1, ((0 : Int), ((0 : Int), (([(1 : Int)] : Y1), (r130_.2.1, (r130_.2.2.1, r130_.2.2.2))))))))
 (.l ((wrap .i64 ((1 : Int) + r1_.1)), (r129_.1, ((0 : Int), ((0 : Int), (([] : Y1), (r130_.2.1, (r130_.2.2.1, r130_.2.2.2))))))))))))
 (.c (Int × (Y1 × (Int × Int))) (wal (32 : Int) r1_.2.1 r1_.2.2.1 r1_.2.2.2) fun r134_ =>
 .t (r134_.1 == 0)
 (.c (Int × (Y1 × (Int × Int))) (wad ([(-1 : Int), (7 : Int), (4611686018427387904 : Int)] : Y1) r134_.2.1 r134_.2.2.1 r134_.2.2.2) fun r135_ =>
 .l ((wrap .i64 ((1 : Int) + r1_.1)), (r135_.1, ((0 : Int), ((0 : Int), (([] : Y1), (r135_.2.1, (r135_.2.2.1, r135_.2.2.2))))))))
 (.t (r134_.1 == 1)
 (.c (Int × (Y1 × (Int × Int))) (wad ([(-1 : Int), (1 : Int)] : Y1) r134_.2.1 r134_.2.2.1 r134_.2.2.2) fun r136_ =>
 .l ((wrap .i64 ((1 : Int) + r1_.1)), ((0 : Int), ((0 : Int), (r136_.1, (([] : Y1), (r136_.2.1, (r136_.2.2.1, r136_.2.2.2))))))))
 (.t (r134_.1 == 2)
 (.c (Int × (Y1 × (Int × Int))) (wad ([(0 : Int), (12 : Int), (-1 : Int)] : Y1) r134_.2.1 r134_.2.2.1 r134_.2.2.2) fun r137_ =>
 .l (r137_.1, ((0 : Int), ((0 : Int), ((0 : Int), (([] : Y1), (r137_.2.1, (r137_.2.2.1, r137_.2.2.2))))))))
 (.t (r134_.1 == 3)
 (.g (decide (length ([(1 : Int)] : Y1) * 8 ≤ 140737488355328)) <|
 .l ((wrap .i64 ((1 : Int) + r1_.1)), ((0 : Int), ((0 : Int), ((0 : Int), (([(1 : Int)] : Y1), (r134_.2.1, (r134_.2.2.1, r134_.2.2.2))))))))
 (.l ((wrap .i64 ((1 : Int) + r1_.1)), ((0 : Int), ((0 : Int), ((0 : Int), (([] : Y1), (r134_.2.1, (r134_.2.2.1, r134_.2.2.2))))))))))))))))))))
noncomputable def wauj (a4_ : Y1) (a5_ : List Y1) (a1_ : Y1) (a2_ : Int) (a3_ : Int) : Option (Int × (Int × (Int × (Int × (Y1 × (Y1 × (Int × Int))))))) := (wami a4_ a5_ a1_ a2_ a3_).ev
noncomputable def wbjl : RetK := { acts := [.ownB 4 4 1 3 yi, .ren 116 1, .ren 4800 1, .ren 5312 1], res := [.cell 4 102], sh := (yj [.agg (yj [.dat yi, .dat yi, .dat yi, .dat yi, .arr 1])]), obs := [(1, .arr 3 yi), (64, .cells (yj [.dat (.slice (.int .u8)), .dat yi, .dat (.int .u64)]))], pins := [(0, 0, 64)] }
noncomputable def wauk : FD := yd (yj [.box 64 0, .agg (yj [.dat y1, .dat y2])]) [(64, .cells (yj [.dat (.slice (.int .u8)), .dat yi, .dat (.int .u64)]))] [.arg 0] (Int × (Int × (Int × (Int × (Y1 × (Y1 × (Int × Int))))))) (fun x => wauj x.1.2.1.1 x.1.2.1.2.1 x.2.1.1 x.2.1.2.1 x.2.1.2.2.1) (fun r => ([.agg [.dat yi r.1, .dat yi r.2.1, .dat yi r.2.2.1, .dat yi r.2.2.2.1, .arr 1]], [(1, .arr 3 yi r.2.2.2.2.1), (64, .cells [.dat (.slice (.int .u8)) r.2.2.2.2.2.1, .dat yi r.2.2.2.2.2.2.1, .dat (.int .u64) r.2.2.2.2.2.2.2])]))
noncomputable def wbjm : Nat → Nat → List Nat := fun r i => match look [(27, [(2, [96])]), (29, [(2, [102])]), (31, [(2, [108])]), (13, [(2, [49])]), (17, [(2, [63])])] r with
 | some l => (look l i).getD []
 | none => []
noncomputable def waul (a1_ : Int) (a2_ : Int) (a3_ : Int) (a4_ : Int) (a5_ : Y1) : Tr (Bool) :=
 .t (a1_ == 1)
 (.t (a1_ == 1)
 (.t (a3_ == 0)
 (.t (a4_ == 0)
 (.l (((length a5_ : Nat) : Int) == (0 : Int)))
 (.l false))
 (.l false))
 (.t (a1_ == 3)
 (.t (a1_ == 3)
 (.t (a4_ == 0)
 (.l (((length a5_ : Nat) : Int) == (0 : Int)))
 (.l false))
 (.t (a1_ == 5)
 (.l (((length a5_ : Nat) : Int) == (0 : Int)))
 (.t (a1_ == 6)
 (.t (a3_ == 0)
 (.l (a4_ == 0))
 (.l false))
 (.t (a1_ == 7)
 (.t (a2_ == 0)
 (.t (a3_ == 0)
 (.l (a4_ == 0))
 (.l false))
 (.l false))
 (.t (a1_ == 10)
 (.t (a2_ == 0)
 (.t (a3_ == 0)
 (.t (a4_ == 0)
 (.l (((length a5_ : Nat) : Int) == (0 : Int)))
 (.l false))
 (.l false))
 (.l false))
 (.t (a1_ == 11)
 (.t (a2_ == 0)
 (.t (a3_ == 0)
 (.t (a4_ == 0)
 (.l (((length a5_ : Nat) : Int) == (0 : Int)))
 (.l false))
 (.l false))
 (.l false))
 (.l false)))))))
 (.t (a1_ == 4)
 (.t (a4_ == 0)
 (.l (((length a5_ : Nat) : Int) == (0 : Int)))
 (.l false))
 (.t (a1_ == 5)
 (.l (((length a5_ : Nat) : Int) == (0 : Int)))
 (.t (a1_ == 6)
 (.t (a3_ == 0)
 (.l (a4_ == 0))
 (.l false))
 (.t (a1_ == 7)
 (.t (a2_ == 0)
 (.t (a3_ == 0)
 (.l (a4_ == 0))
 (.l false))
 (.l false))
 (.t (a1_ == 10)
 (.t (a2_ == 0)
 (.t (a3_ == 0)
 (.t (a4_ == 0)
 (.l (((length a5_ : Nat) : Int) == (0 : Int)))
 (.l false))
 (.l false))
 (.l false))
 (.t (a1_ == 11)
 (.t (a2_ == 0)
 (.t (a3_ == 0)
 (.t (a4_ == 0)
 (.l (((length a5_ : Nat) : Int) == (0 : Int)))
 (.l false))
 (.l false))
 (.l false))
 (.l false)))))))))
 (.t (a1_ == 2)
 (.t (a1_ == 2)
 (.t (a3_ == 0)
 (.t (a4_ == 0)
 (.l (((length a5_ : Nat) : Int) == (0 : Int)))
 (.l false))
 (.l false))
 (.t (a1_ == 3)
 (.t (a1_ == 3)
 (.t (a4_ == 0)
 (.l (((length a5_ : Nat) : Int) == (0 : Int)))
 (.l false))
 (.t (a1_ == 5)
 (.l (((length a5_ : Nat) : Int) == (0 : Int)))
 (.t (a1_ == 6)
 (.t (a3_ == 0)
 (.l (a4_ == 0))
 (.l false))
 (.t (a1_ == 7)
 (.t (a2_ == 0)
 (.t (a3_ == 0)
 (.l (a4_ == 0))
 (.l false))
 (.l false))
 (.t (a1_ == 10)
 (.t (a2_ == 0)
 (.t (a3_ == 0)
 (.t (a4_ == 0)
 (.l (((length a5_ : Nat) : Int) == (0 : Int)))
 (.l false))
 (.l false))
 (.l false))
 (.t (a1_ == 11)
 (.t (a2_ == 0)
 (.t (a3_ == 0)
 (.t (a4_ == 0)
 (.l (((length a5_ : Nat) : Int) == (0 : Int)))
 (.l false))
 (.l false))
 (.l false))
 (.l false)))))))
 (.t (a1_ == 4)
 (.t (a4_ == 0)
 (.l (((length a5_ : Nat) : Int) == (0 : Int)))
 (.l false))
 (.t (a1_ == 5)
 (.l (((length a5_ : Nat) : Int) == (0 : Int)))
 (.t (a1_ == 6)
 (.t (a3_ == 0)
 (.l (a4_ == 0))
 (.l false))
 (.t (a1_ == 7)
 (.t (a2_ == 0)
 (.t (a3_ == 0)
 (.l (a4_ == 0))
 (.l false))
 (.l false))
 (.t (a1_ == 10)
 (.t (a2_ == 0)
 (.t (a3_ == 0)
 (.t (a4_ == 0)
 (.l (((length a5_ : Nat) : Int) == (0 : Int)))
 (.l false))
 (.l false))
 (.l false))
 (.t (a1_ == 11)
 (.t (a2_ == 0)
 (.t (a3_ == 0)
 (.t (a4_ == 0)
 (.l (((length a5_ : Nat) : Int) == (0 : Int)))
 (.l false))
 (.l false))
 (.l false))
 (.l false)))))))))
 (.t (a1_ == 8)
 (.t (a1_ == 8)
 (.t (a3_ == 0)
 (.t (a4_ == 0)
 (.l (((length a5_ : Nat) : Int) == (0 : Int)))
 (.l false))
 (.l false))
 (.t (a1_ == 3)
 (.t (a1_ == 3)
 (.t (a4_ == 0)
 (.l (((length a5_ : Nat) : Int) == (0 : Int)))
 (.l false))
 (.t (a1_ == 5)
 (.l (((length a5_ : Nat) : Int) == (0 : Int)))
 (.t (a1_ == 6)
 (.t (a3_ == 0)
 (.l (a4_ == 0))
 (.l false))
 (.t (a1_ == 7)
 (.t (a2_ == 0)
 (.t (a3_ == 0)
 (.l (a4_ == 0))
 (.l false))
 (.l false))
 (.t (a1_ == 10)
 (.t (a2_ == 0)
 (.t (a3_ == 0)
 (.t (a4_ == 0)
 (.l (((length a5_ : Nat) : Int) == (0 : Int)))
 (.l false))
 (.l false))
 (.l false))
 (.t (a1_ == 11)
 (.t (a2_ == 0)
 (.t (a3_ == 0)
 (.t (a4_ == 0)
 (.l (((length a5_ : Nat) : Int) == (0 : Int)))
 (.l false))
 (.l false))
 (.l false))
 (.l false)))))))
 (.t (a1_ == 4)
 (.t (a4_ == 0)
 (.l (((length a5_ : Nat) : Int) == (0 : Int)))
 (.l false))
 (.t (a1_ == 5)
 (.l (((length a5_ : Nat) : Int) == (0 : Int)))
 (.t (a1_ == 6)
 (.t (a3_ == 0)
 (.l (a4_ == 0))
 (.l false))
 (.t (a1_ == 7)
 (.t (a2_ == 0)
 (.t (a3_ == 0)
 (.l (a4_ == 0))
 (.l false))
 (.l false))
 (.t (a1_ == 10)
 (.t (a2_ == 0)
 (.t (a3_ == 0)
 (.t (a4_ == 0)
 (.l (((length a5_ : Nat) : Int) == (0 : Int)))
 (.l false))
 (.l false))
 (.l false))
 (.t (a1_ == 11)
 (.t (a2_ == 0)
 (.t (a3_ == 0)
 (.t (a4_ == 0)
 (.l (((length a5_ : Nat) : Int) == (0 : Int)))
 (.l false))
 (.l false))
 (.l false))
 (.l false)))))))))
 (.t (a1_ == 9)
 (.t (a3_ == 0)
 (.t (a4_ == 0)
 (.l (((length a5_ : Nat) : Int) == (0 : Int)))
 (.l false))
 (.l false))
 (.t (a1_ == 3)
 (.t (a1_ == 3)
 (.t (a4_ == 0)
 (.l (((length a5_ : Nat) : Int) == (0 : Int)))
 (.l false))
 (.t (a1_ == 5)
 (.l (((length a5_ : Nat) : Int) == (0 : Int)))
 (.t (a1_ == 6)
 (.t (a3_ == 0)
 (.l (a4_ == 0))
 (.l false))
 (.t (a1_ == 7)
 (.t (a2_ == 0)
 (.t (a3_ == 0)
 (.l (a4_ == 0))
 (.l false))
 (.l false))
 (.t (a1_ == 10)
 (.t (a2_ == 0)
 (.t (a3_ == 0)
 (.t (a4_ == 0)
 (.l (((length a5_ : Nat) : Int) == (0 : Int)))
 (.l false))
 (.l false))
 (.l false))
 (.t (a1_ == 11)
 (.t (a2_ == 0)
 (.t (a3_ == 0)
 (.t (a4_ == 0)
 (.l (((length a5_ : Nat) : Int) == (0 : Int)))
 (.l false))
 (.l false))
 (.l false))
 (.l false)))))))
 (.t (a1_ == 4)
 (.t (a4_ == 0)
 (.l (((length a5_ : Nat) : Int) == (0 : Int)))
 (.l false))
 (.t (a1_ == 5)
 (.l (((length a5_ : Nat) : Int) == (0 : Int)))
 (.t (a1_ == 6)
 (.t (a3_ == 0)
 (.l (a4_ == 0))
 (.l false))
 (.t (a1_ == 7)
 (.t (a2_ == 0)
 (.t (a3_ == 0)
 (.l (a4_ == 0))
 (.l false))
 (.l false))
 (.t (a1_ == 10)
 (.t (a2_ == 0)
 (.t (a3_ == 0)
 (.t (a4_ == 0)
 (.l (((length a5_ : Nat) : Int) == (0 : Int)))
 (.l false))
 (.l false))
 (.l false))
 (.t (a1_ == 11)
 (.t (a2_ == 0)
 (.t (a3_ == 0)
 (.t (a4_ == 0)
 (.l (((length a5_ : Nat) : Int) == (0 : Int)))
 (.l false))
 (.l false))
 (.l false))
 (.l false)))))))))))
noncomputable def wamj (a1_ : Int) (a2_ : Int) (a3_ : Int) (a4_ : Int) (a5_ : Y1) : Option (Bool) := (waul a1_ a2_ a3_ a4_ a5_).ev
noncomputable def wbjn : RetK := yr [.tmp 2] (yj [.dat .bool])
noncomputable def waum : FD := yd (yj [.agg (yj [.dat yi, .dat yi, .dat yi, .dat yi, .dat y1])]) [] [] Bool (fun x => wamj x.1.1.1 x.1.1.2.1 x.1.1.2.2.1 x.1.1.2.2.2.1 x.1.1.2.2.2.2.1) (fun r => ([.dat .bool r], []))
noncomputable def waun (a1_ : Y1) (_a2_ : List Y1) (a3_ : Int) : Tr (Bool) :=
 .c (Bool) (wjm a3_ (0 : Int) (wrap .i64 (((length a1_ : Nat) : Int) - 1))) fun r1_ =>
 .l r1_
noncomputable def wsz (a1_ : Y1) (a2_ : List Y1) (a3_ : Int) : Option (Bool) := (waun a1_ a2_ a3_).ev
noncomputable def wbjo : RetK := yr [.tmp 4] (yj [.dat .bool])
noncomputable def wamk : FD := yd (yj [.agg (yj [.dat y1, .dat y2]), .dat yi]) [] [] Bool (fun x => wsz x.1.1.1 x.1.1.2.1 x.1.2.1) (fun r => ([.dat .bool r], []))
noncomputable def wna (k : Y1 × Int) (v : Int) : Tr ((Int) ⊕ ((Unit) ⊕ (Unit))) :=
 .t (decide (v < ((length k.1 : Nat) : Int)))
 (.g (inR v (length k.1)) <|
 .t ((getD k.1 (toNat v) 0) == k.2)
 (.l (.inr (.inr ())))
 (.l (.inl (wrap .i64 (v + 1)))))
 (.l (.inr (.inl ())))
noncomputable def wagc (k : Y1 × Int) (v : Int) : Option ((Unit) ⊕ (Unit)) := iter (fun v => (wna k v).ev) v
noncomputable def wyi : LD := ⟨(yh [0, 1, 5] (yj [.dat y1, .dat yi, .dat yi])), [(0, (yh [] .nil))], (yh [4] (yj [.dat .bool])), Y1 × (Int), Int, (Unit) ⊕ (Unit), fun k v => ((k.1, (k.2, (v, ()))), ()), fun t => (t.1.1, t.1.2.1), fun t => t.1.2.2.1, wna, fun _ r => .s (Unit) (Unit) r (fun _ => .l (.exit 0 (wbe ((ys [] .nil)) ((), ())))) (fun _ => .l (.ret (wbe ((ys [4] (yj [.dat .bool]))) ((true, ()), ()))))⟩
noncomputable def wauo (a1_ : Y1) (a2_ : Int) : Tr (Bool) :=
 .c ((Unit) ⊕ (Unit)) (wagc (a1_, a2_) (0 : Int)) fun r5_ =>
 .s (Unit) (Unit) r5_
 (fun _ => .l false)
 (fun _ => .l true)
noncomputable def wnb (a1_ : Y1) (a2_ : Int) : Option (Bool) := (wauo a1_ a2_).ev
noncomputable def wbjp : RetK := yr [.tmp 4] (yj [.dat .bool])
noncomputable def wagd : FD := yd (yj [.dat y1, .dat yi]) [] [] Bool (fun x => wnb x.1.1 x.1.2.1) (fun r => ([.dat .bool r], []))
noncomputable def waup : Env := wac []
noncomputable def wauq : List (Nat × LD) := [(0, wyi)]
noncomputable def waur : Code := (f144.body).getD .skip
noncomputable def waus (a1_ : Y1) (a2_ : List Y1) (a3_ : Y1) (_a4_ : Int) (a5_ : Int) : Tr (Bool) :=
 .c (Bool) (wsz a1_ a2_ a5_) fun r1_ =>
 .t r1_
 (.c (Bool) (wnb a3_ a5_) fun r2_ =>
 .l (!r2_))
 (.l false)
noncomputable def wvl (a1_ : Y1) (a2_ : List Y1) (a3_ : Y1) (a4_ : Int) (a5_ : Int) : Option (Bool) := (waus a1_ a2_ a3_ a4_ a5_).ev
noncomputable def wbjq : RetK := yr [.tmp 4] (yj [.dat .bool])
noncomputable def waut : FD := yd (yj [.agg (yj [.dat y1, .dat y2, .dat y1, .dat yi]), .dat yi]) [] [] Bool (fun x => wvl x.1.1.1 x.1.1.2.1 x.1.1.2.2.1 x.1.1.2.2.2.1 x.1.2.1) (fun r => ([.dat .bool r], []))
noncomputable def wauu (a1_ : Y1) (a2_ : List Y1) (a3_ : Y1) (a4_ : Int) (a5_ : Int) (a6_ : Int) (a7_ : Int) (_a8_ : Int) (a9_ : Y1) : Tr (Bool) :=
 .t (a5_ == 1)
 (.t (a5_ == 1)
 (.c (Bool) (wvl a1_ a2_ a3_ a4_ a6_) fun r1_ =>
 .l r1_)
 (.t (a5_ == 2)
 (.c (Bool) (wnb a3_ a6_) fun r2_ =>
 .l r2_)
 (.t (a5_ == 3)
 (.c (Bool) (wnb a3_ a6_) fun r3_ =>
 .t r3_
 (.c (Bool) (wvl a1_ a2_ a3_ a4_ a7_) fun r4_ =>
 .l r4_)
 (.l false))
 (.t (a5_ == 4)
 (.c (Bool) (wsz a1_ a2_ a6_) fun r5_ =>
 .l r5_)
 (.t (a5_ == 5)
 (.c (Bool) (wjm a6_ (0 : Int) (wrap .i64 (((length a2_ : Nat) : Int) - 1))) fun r6_ =>
 .t r6_
 (.c (Bool) (wsz a1_ a2_ a7_) fun r7_ =>
 .l r7_)
 (.l false))
 (.t (a5_ == 6)
 (.l (((length a9_ : Nat) : Int) == ((length a2_ : Nat) : Int)))
 (.t (a5_ == 9)
 (.c (Bool) (wjm a6_ (0 : Int) (wrap .i64 (((length a2_ : Nat) : Int) - 1))) fun r8_ =>
 .l r8_)
 (.t (a5_ == 10)
 (.l (decide ((0 : Int) < ((length a3_ : Nat) : Int))))
 (.l true)))))))))
 (.t (a5_ == 8)
 (.c (Bool) (wvl a1_ a2_ a3_ a4_ a6_) fun r9_ =>
 .l r9_)
 (.t (a5_ == 2)
 (.c (Bool) (wnb a3_ a6_) fun r10_ =>
 .l r10_)
 (.t (a5_ == 3)
 (.c (Bool) (wnb a3_ a6_) fun r11_ =>
 .t r11_
 (.c (Bool) (wvl a1_ a2_ a3_ a4_ a7_) fun r12_ =>
 .l r12_)
 (.l false))
 (.t (a5_ == 4)
 (.c (Bool) (wsz a1_ a2_ a6_) fun r13_ =>
 .l r13_)
 (.t (a5_ == 5)
 (.c (Bool) (wjm a6_ (0 : Int) (wrap .i64 (((length a2_ : Nat) : Int) - 1))) fun r14_ =>
 .t r14_
 (.c (Bool) (wsz a1_ a2_ a7_) fun r15_ =>
 .l r15_)
 (.l false))
 (.t (a5_ == 6)
 (.l (((length a9_ : Nat) : Int) == ((length a2_ : Nat) : Int)))
 (.t (a5_ == 9)
 (.c (Bool) (wjm a6_ (0 : Int) (wrap .i64 (((length a2_ : Nat) : Int) - 1))) fun r16_ =>
 .l r16_)
 (.t (a5_ == 10)
 (.l (decide ((0 : Int) < ((length a3_ : Nat) : Int))))
 (.l true)))))))))
noncomputable def waml (a1_ : Y1) (a2_ : List Y1) (a3_ : Y1) (a4_ : Int) (a5_ : Int) (a6_ : Int) (a7_ : Int) (a8_ : Int) (a9_ : Y1) : Option (Bool) := (wauu a1_ a2_ a3_ a4_ a5_ a6_ a7_ a8_ a9_).ev
noncomputable def wbjr : RetK := yr [.tmp 4] (yj [.dat .bool])
noncomputable def wauv : FD := yd (yj [.agg (yj [.dat y1, .dat y2, .dat y1, .dat yi]), .agg (yj [.dat yi, .dat yi, .dat yi, .dat yi, .dat y1])]) [] [] Bool (fun x => waml x.1.1.1 x.1.1.2.1 x.1.1.2.2.1 x.1.1.2.2.2.1 x.1.2.1.1 x.1.2.1.2.1 x.1.2.1.2.2.1 x.1.2.1.2.2.2.1 x.1.2.1.2.2.2.2.1) (fun r => ([.dat .bool r], []))
noncomputable def wnc (k : Y1 × (Y2 × (Y1 × (Int × (Int × (Y2 × Y1)))))) (v : Int × Y2) : Tr ((Int × Y2) ⊕ Y2) :=
 .t (decide (v.1 < ((length k.2.1 : Nat) : Int)))
 (.g (inR v.1 (length k.2.1)) <|
 .c Y1 (wgt (getD k.2.1 (toNat v.1) ([] : Y1))) fun r11_ =>
 .g (decide ((length v.2 + 1) * 24 ≤ 140737488355328)) <|
 .l (.inl ((wrap .i64 (v.1 + 1)), (set (v.2 ++ [[]]) (length v.2) r11_))))
 (.l (.inr v.2))
noncomputable def wage (k : Y1 × (Y2 × (Y1 × (Int × (Int × (Y2 × Y1)))))) (v : Int × Y2) : Option Y2 := iter (fun v => (wnc k v).ev) v
noncomputable def wyj : LD := ⟨{ acts := [.ownRB 2 1 900321 22 3 yi], S := { slots := [1, 2, 3, 4], sh := (yj [.box 1 0, .box 2 0, .box 3 0, .dat yi]), obs := [(1, .cells (yj [.dat y1, .dat y2, .dat y1, .dat yi])), (2, .cells (yj [.nilsl, .arr 900321, .nilsl, .dat yi])), (3, .cells (yj [.arr 512, .arr 9])), (900321, .rows 22 3 yi), (512, .arr 3 yi), (9, .rows 22 3 yi)] } }, [(0, { acts := [], S := { slots := [1, 2, 3], sh := (yj [.box 1 0, .box 2 0, .box 3 0]), obs := [(1, .cells (yj [.dat y1, .dat y2, .dat y1, .dat yi])), (2, .cells (yj [.nilsl, .arr 900321, .nilsl, .dat yi])), (3, .cells (yj [.arr 512, .arr 9])), (900321, .rows 22 3 yi), (512, .arr 3 yi), (9, .rows 22 3 yi)] } })], (yh [] .nil), Y1 × (Y2 × (Y1 × (Int × (Int × (Y2 × Y1))))), Int × Y2, List Y1, fun k v => (((), ((), ((), (v.1, ())))), ((k.1, (k.2.1, (k.2.2.1, (k.2.2.2.1, ())))), (((), ((), ((), (k.2.2.2.2.1, ())))), (((), ((), ())), (k.2.2.2.2.2.1, (k.2.2.2.2.2.2, (v.2, ()))))))), fun t => (t.2.1.1, (t.2.1.2.1, (t.2.1.2.2.1, (t.2.1.2.2.2.1, (t.2.2.1.2.2.2.1, (t.2.2.2.2.1, t.2.2.2.2.2.1)))))), fun t => (t.1.2.2.2.1, t.2.2.2.2.2.2.1), wnc, fun k r => .l (.exit 0 (wbe ({ slots := [1, 2, 3], sh := (yj [.box 1 0, .box 2 0, .box 3 0]), obs := [(1, .cells (yj [.dat y1, .dat y2, .dat y1, .dat yi])), (2, .cells (yj [.nilsl, .arr 900321, .nilsl, .dat yi])), (3, .cells (yj [.arr 512, .arr 9])), (900321, .rows 22 3 yi), (512, .arr 3 yi), (9, .rows 22 3 yi)] }) (((), ((), ((), ()))), ((k.1, (k.2.1, (k.2.2.1, (k.2.2.2.1, ())))), (((), ((), ((), (k.2.2.2.2.1, ())))), (((), ((), ())), (k.2.2.2.2.2.1, (k.2.2.2.2.2.2, (r, ())))))))))⟩
noncomputable def wauw (a1_ : Y1) (a2_ : List Y1) (a3_ : Y1) (a4_ : Int) : Tr (Int × (Y1 × (Y2 × Y1))) :=
 .c Y1 (wgt a1_) fun r1_ =>
 .c Y2 (wage (a1_, (a2_, (a3_, (a4_, ((0 : Int), (([] : List Y1), r1_)))))) ((0 : Int), ([] : List Y1))) fun r20_ =>
 .c Y1 (wgt a3_) fun r21_ =>
 .l (a4_, (r1_, (r20_, r21_)))
noncomputable def wagf (a1_ : Y1) (a2_ : List Y1) (a3_ : Y1) (a4_ : Int) : Option (Int × (Y1 × (Y2 × Y1))) := (wauw a1_ a2_ a3_ a4_).ev
noncomputable def wbjs : RetK := { acts := [.ren 512 4, .ren 9 5, .ren 2176 6], res := [.cell 2 44], sh := (yj [.agg (yj [.arr 4, .arr 5, .arr 6, .dat yi])]), obs := [(4, .arr 3 yi), (5, .rows 22 3 yi), (6, .arr 3 yi)], pins := [] }
noncomputable def wamm : FD := yd (yj [.agg (yj [.dat y1, .dat y2, .dat y1, .dat yi])]) [] [] (Int × (Y1 × (Y2 × Y1))) (fun x => wagf x.1.1.1 x.1.1.2.1 x.1.1.2.2.1 x.1.1.2.2.2.1) (fun r => ([.agg [.arr 4, .arr 5, .arr 6, .dat yi r.1]], [(4, .arr 3 yi r.2.1), (5, .rows 22 3 yi r.2.2.1 none), (6, .arr 3 yi r.2.2.2)]))
noncomputable def waux : Nat → Nat → List Nat := fun r i => match look [(1, [(4, [1000000])])] r with
 | some l => (look l i).getD []
 | none => []
noncomputable def wauy : Env := wac [(140, wsw)]
noncomputable def wauz : List (Nat × LD) := [(0, wyj)]
noncomputable def wava : Code := (f146.body).getD .skip
noncomputable def wjp (k : Y1 × Int) (v : Int) : Tr ((Int) ⊕ (Int)) :=
 .t (decide (v < ((length k.1 : Nat) : Int)))
 (.g (inR v (length k.1)) <|
 .t (decide ((getD k.1 (toNat v) 0) < k.2))
 (.l (.inl (wrap .i64 (v + 1))))
 (.l (.inr v)))
 (.l (.inr v))
noncomputable def wvm (k : Y1 × Int) (v : Int) : Option (Int) := iter (fun v => (wjp k v).ev) v
noncomputable def wyk : LD := ⟨(yh [0, 1, 5] (yj [.dat y1, .dat yi, .dat yi])), [(0, (yh [0, 1, 5] (yj [.dat y1, .dat yi, .dat yi])))], (yh [] .nil), Y1 × (Int), Int, Int, fun k v => ((k.1, (k.2, (v, ()))), ()), fun t => (t.1.1, t.1.2.1), fun t => t.1.2.2.1, wjp, fun k r => .l (.exit 0 (wbe ((ys [0, 1, 5] (yj [.dat y1, .dat yi, .dat yi]))) ((k.1, (k.2, (r, ()))), ())))⟩
noncomputable def wavb (a1_ : Y1) (a2_ : Int) : Tr Y1 :=
 .c (Int) (wvm (a1_, a2_) (0 : Int)) fun r7_ =>
 .t (decide (r7_ < ((length a1_ : Nat) : Int)))
 (.g (inR r7_ (length a1_)) <|
 .t ((getD a1_ (toNat r7_) 0) == a2_)
 (.f)
 (.g (decide (0 ≤ r7_) && decide (r7_ ≤ ((length a1_ : Nat) : Int))) <|
 .g (decide ((length ([] : Y1) + length (List.drop 0 (List.take (toNat r7_) a1_))) * 8 ≤ 140737488355328)) <|
 .g (decide ((length (([] : Y1) ++ (List.drop 0 (List.take (toNat r7_) a1_))) + length ([a2_] : Y1)) * 8 ≤ 140737488355328)) <|
 .g (decide (0 ≤ r7_) && decide (r7_ ≤ ((length a1_ : Nat) : Int))) <|
 .g (decide ((length ((([] : Y1) ++ (List.drop 0 (List.take (toNat r7_) a1_))) ++ ([a2_] : Y1)) + length (List.drop (toNat r7_) (List.take (length a1_) a1_))) * 8 ≤ 140737488355328)) <|
 .l (((([] : Y1) ++ (List.drop 0 (List.take (toNat r7_) a1_))) ++ ([a2_] : Y1)) ++ (List.drop (toNat r7_) (List.take (length a1_) a1_)))))
 (.g (decide (0 ≤ r7_) && decide (r7_ ≤ ((length a1_ : Nat) : Int))) <|
 .g (decide ((length ([] : Y1) + length (List.drop 0 (List.take (toNat r7_) a1_))) * 8 ≤ 140737488355328)) <|
 .g (decide ((length (([] : Y1) ++ (List.drop 0 (List.take (toNat r7_) a1_))) + length ([a2_] : Y1)) * 8 ≤ 140737488355328)) <|
 .g (decide (0 ≤ r7_) && decide (r7_ ≤ ((length a1_ : Nat) : Int))) <|
 .g (decide ((length ((([] : Y1) ++ (List.drop 0 (List.take (toNat r7_) a1_))) ++ ([a2_] : Y1)) + length (List.drop (toNat r7_) (List.take (length a1_) a1_))) * 8 ≤ 140737488355328)) <|
 .l (((([] : Y1) ++ (List.drop 0 (List.take (toNat r7_) a1_))) ++ ([a2_] : Y1)) ++ (List.drop (toNat r7_) (List.take (length a1_) a1_))))
noncomputable def wta (a1_ : Y1) (a2_ : Int) : Option Y1 := (wavb a1_ a2_).ev
noncomputable def wbjt : RetK := { acts := [.ren 33 0], res := [.tmp 4], sh := (yj [.arr 0]), obs := [(0, .arr 3 yi)], pins := [] }
noncomputable def wamn : FD := yd (yj [.dat y1, .dat yi]) [] [] Y1 (fun x => wta x.1.1 x.1.2.1) (fun r => ([.arr 0], [(0, .arr 3 yi r)]))
noncomputable def wavc : Nat → Nat → List Nat := fun r i => match look [(5, [(1, [140000000])])] r with
 | some l => (look l i).getD []
 | none => []
noncomputable def wavd : Env := wac []
noncomputable def wave : List (Nat × LD) := [(0, wyk)]
noncomputable def wavf : Code := (f147.body).getD .skip
noncomputable def wjq (k : Y1 × Int) (v : Int × Y1) : Tr ((Int × Y1) ⊕ Y1) :=
 .t (decide (v.1 < ((length k.1 : Nat) : Int)))
 (.g (inR v.1 (length k.1)) <|
 .t ((getD k.1 (toNat v.1) 0) != k.2)
 (.g (inR v.1 (length k.1)) <|
 .g (decide ((length v.2 + length ([(getD k.1 (toNat v.1) 0)] : Y1)) * 8 ≤ 140737488355328)) <|
 .l (.inl ((wrap .i64 (v.1 + 1)), (v.2 ++ ([(getD k.1 (toNat v.1) 0)] : Y1)))))
 (.l (.inl ((wrap .i64 (v.1 + 1)), v.2))))
 (.l (.inr v.2))
noncomputable def wvn (k : Y1 × Int) (v : Int × Y1) : Option Y1 := iter (fun v => (wjq k v).ev) v
noncomputable def wyl : LD := ⟨{ acts := [], S := { slots := [0, 1, 5, 6], sh := (yj [.dat y1, .dat yi, .arr 7, .dat yi]), obs := [(7, .arr 3 yi)] } }, [(0, { acts := [], S := { slots := [5], sh := (yj [.arr 7]), obs := [(7, .arr 3 yi)] } })], (yh [] .nil), Y1 × (Int), Int × Y1, Y1, fun k v => ((k.1, (k.2, ((), (v.1, ())))), (v.2, ())), fun t => (t.1.1, t.1.2.1), fun t => (t.1.2.2.2.1, t.2.1), wjq, fun _ r => .l (.exit 0 (wbe ({ slots := [5], sh := (yj [.arr 7]), obs := [(7, .arr 3 yi)] }) (((), ()), (r, ()))))⟩
noncomputable def wavg (a1_ : Y1) (a2_ : Int) : Tr Y1 :=
 .c Y1 (wvn (a1_, a2_) ((0 : Int), ([] : Y1))) fun r6_ =>
 .l r6_
noncomputable def wabl (a1_ : Y1) (a2_ : Int) : Option Y1 := (wavg a1_ a2_).ev
noncomputable def wbju : RetK := { acts := [.ren 7 0], res := [.tmp 4], sh := (yj [.arr 0]), obs := [(0, .arr 3 yi)], pins := [] }
noncomputable def wamo : FD := yd (yj [.dat y1, .dat yi]) [] [] Y1 (fun x => wabl x.1.1 x.1.2.1) (fun r => ([.arr 0], [(0, .arr 3 yi r)]))
noncomputable def wavh : Env := wac []
noncomputable def wavi : List (Nat × LD) := [(0, wyl)]
noncomputable def wavj : Code := (f148.body).getD .skip
noncomputable def wavk (a1_ : Y1) (a2_ : Int) : Tr Y1 :=
 .g (decide (0 ≤ a2_) && decide (a2_ ≤ ((length a1_ : Nat) : Int))) <|
 .c Y1 (wgt (List.drop 0 (List.take (toNat a2_) a1_))) fun r1_ =>
 .g (decide ((0 : Int) ≤ (wrap .i64 (a2_ + 1))) && decide ((wrap .i64 (a2_ + 1)) ≤ ((length a1_ : Nat) : Int))) <|
 .g (decide ((length r1_ + length (List.drop (toNat (wrap .i64 (a2_ + 1))) (List.take (length a1_) a1_))) * 8 ≤ 140737488355328)) <|
 .l (r1_ ++ (List.drop (toNat (wrap .i64 (a2_ + 1))) (List.take (length a1_) a1_)))
noncomputable def wagg (a1_ : Y1) (a2_ : Int) : Option Y1 := (wavk a1_ a2_).ev
noncomputable def wbjv : RetK := { acts := [.ren 512 0], res := [.tmp 4], sh := (yj [.arr 0]), obs := [(0, .arr 3 yi)], pins := [] }
noncomputable def wavl : FD := yd (yj [.dat y1, .dat yi]) [] [] Y1 (fun x => wagg x.1.1 x.1.2.1) (fun r => ([.arr 0], [(0, .arr 3 yi r)]))
noncomputable def wnd (k : Int × (Y1 × (Y2 × (Y1 × (Int × (Int × (Int × (Y1 × Y1)))))))) (v : Int × Y2) : Tr ((Int × Y2) ⊕ Y2) :=
 .t (decide (v.1 < ((length k.2.2.1 : Nat) : Int)))
 (.g (inR v.1 (length k.2.2.1)) <|
 .c Y1 (wagg (getD k.2.2.1 (toNat v.1) ([] : Y1)) k.1) fun r14_ =>
 .g (inR v.1 (length v.2)) <|
 .g (decide ((toNat v.1) < length v.2)) <|
 .l (.inl ((wrap .i64 (v.1 + 1)), (set v.2 (toNat v.1) r14_))))
 (.l (.inr v.2))
noncomputable def wagh (k : Int × (Y1 × (Y2 × (Y1 × (Int × (Int × (Int × (Y1 × Y1)))))))) (v : Int × Y2) : Option Y2 := iter (fun v => (wnd k v).ev) v
noncomputable def wym : LD := ⟨{ acts := [], S := { slots := [1, 2, 4, 5, 6], sh := (yj [.dat yi, .box 2 0, .box 4 0, .box 5 0, .dat yi]), obs := [(2, .cells (yj [.dat y1, .dat y2, .dat y1, .dat yi])), (4, .cells (yj [.nilsl, .nilsl, .nilsl, .dat yi])), (5, .cells (yj [.arr 896, .arr 581, .arr 582, .dat yi])), (896, .arr 3 yi), (581, .rows 22 3 yi), (582, .arr 3 yi)] } }, [(0, { acts := [], S := { slots := [1, 4, 5], sh := (yj [.dat yi, .box 4 0, .box 5 0]), obs := [(4, .cells (yj [.nilsl, .nilsl, .nilsl, .dat yi])), (5, .cells (yj [.arr 896, .arr 581, .arr 582, .dat yi])), (896, .arr 3 yi), (581, .rows 22 3 yi), (582, .arr 3 yi)] } })], (yh [] .nil), Int × (Y1 × (Y2 × (Y1 × (Int × (Int × (Int × (Y1 × Y1))))))), Int × Y2, List Y1, fun k v => ((k.1, ((), ((), ((), (v.1, ()))))), ((k.2.1, (k.2.2.1, (k.2.2.2.1, (k.2.2.2.2.1, ())))), (((), ((), ((), (k.2.2.2.2.2.1, ())))), (((), ((), ((), (k.2.2.2.2.2.2.1, ())))), (k.2.2.2.2.2.2.2.1, (v.2, (k.2.2.2.2.2.2.2.2, ()))))))), fun t => (t.1.1, (t.2.1.1, (t.2.1.2.1, (t.2.1.2.2.1, (t.2.1.2.2.2.1, (t.2.2.1.2.2.2.1, (t.2.2.2.1.2.2.2.1, (t.2.2.2.2.1, t.2.2.2.2.2.2.1)))))))), fun t => (t.1.2.2.2.2.1, t.2.2.2.2.2.1), wnd, fun k r => .l (.exit 0 (wbe ({ slots := [1, 4, 5], sh := (yj [.dat yi, .box 4 0, .box 5 0]), obs := [(4, .cells (yj [.nilsl, .nilsl, .nilsl, .dat yi])), (5, .cells (yj [.arr 896, .arr 581, .arr 582, .dat yi])), (896, .arr 3 yi), (581, .rows 22 3 yi), (582, .arr 3 yi)] }) ((k.1, ((), ((), ()))), (((), ((), ((), (k.2.2.2.2.2.1, ())))), (((), ((), ((), (k.2.2.2.2.2.2.1, ())))), (k.2.2.2.2.2.2.2.1, (r, (k.2.2.2.2.2.2.2.2, ()))))))))⟩
noncomputable def wjr (k : Int × (Int × (Int × (Y1 × Y2)))) (v : Int × Y1) : Tr ((Int × Y1) ⊕ Y1) :=
 .t (decide (v.1 < ((length v.2 : Nat) : Int)))
 (.g (inR v.1 (length v.2)) <|
 .g (decide ((toNat v.1) < length v.2)) <|
 .t (decide (k.1 < (getD v.2 (toNat v.1) 0)))
 (.g (inR v.1 (length v.2)) <|
 .g (decide ((toNat v.1) < length v.2)) <|
 .g (inR v.1 (length v.2)) <|
 .g (decide ((toNat v.1) < length v.2)) <|
 .l (.inl ((wrap .i64 (v.1 + 1)), (set v.2 (toNat v.1) (wrap .i64 ((getD v.2 (toNat v.1) 0) - 1))))))
 (.l (.inl ((wrap .i64 (v.1 + 1)), v.2))))
 (.l (.inr v.2))
noncomputable def wagi (k : Int × (Int × (Int × (Y1 × Y2)))) (v : Int × Y1) : Option Y1 := iter (fun v => (wjr k v).ev) v
noncomputable def wyn : LD := ⟨{ acts := [], S := { slots := [1, 4, 5, 7], sh := (yj [.dat yi, .box 4 0, .box 5 0, .dat yi]), obs := [(4, .cells (yj [.nilsl, .nilsl, .nilsl, .dat yi])), (5, .cells (yj [.arr 896, .arr 581, .arr 582, .dat yi])), (896, .arr 3 yi), (581, .rows 22 3 yi), (582, .arr 3 yi)] } }, [(2, { acts := [], S := { slots := [4, 5], sh := (yj [.box 4 0, .box 5 0]), obs := [(4, .cells (yj [.nilsl, .nilsl, .nilsl, .dat yi])), (5, .cells (yj [.arr 896, .arr 581, .arr 582, .dat yi])), (896, .arr 3 yi), (581, .rows 22 3 yi), (582, .arr 3 yi)] } })], (yh [] .nil), Int × (Int × (Int × (Y1 × Y2))), Int × Y1, Y1, fun k v => ((k.1, ((), ((), (v.1, ())))), (((), ((), ((), (k.2.1, ())))), (((), ((), ((), (k.2.2.1, ())))), (k.2.2.2.1, (k.2.2.2.2, (v.2, ())))))), fun t => (t.1.1, (t.2.1.2.2.2.1, (t.2.2.1.2.2.2.1, (t.2.2.2.1, t.2.2.2.2.1)))), fun t => (t.1.2.2.2.1, t.2.2.2.2.2.1), wjr, fun k r => .l (.exit 2 (wbe ({ slots := [4, 5], sh := (yj [.box 4 0, .box 5 0]), obs := [(4, .cells (yj [.nilsl, .nilsl, .nilsl, .dat yi])), (5, .cells (yj [.arr 896, .arr 581, .arr 582, .dat yi])), (896, .arr 3 yi), (581, .rows 22 3 yi), (582, .arr 3 yi)] }) (((), ((), ())), (((), ((), ((), (k.2.1, ())))), (((), ((), ((), (k.2.2.1, ())))), (k.2.2.2.1, (k.2.2.2.2, (r, ()))))))))⟩
noncomputable def wavm (a1_ : Y1) (a2_ : List Y1) (a3_ : Y1) (a4_ : Int) (a5_ : Int) : Tr (Int × (Y1 × (Y2 × Y1))) :=
 .c (Int × (Y1 × (Y2 × Y1))) (wagf a1_ a2_ a3_ a4_) fun r1_ =>
 .c Y1 (wagg a1_ a5_) fun r2_ =>
 .c Y2 (wagh (a5_, (a1_, (a2_, (a3_, (a4_, ((0 : Int), (r1_.1, (r2_, r1_.2.2.2)))))))) ((0 : Int), r1_.2.2.1)) fun r21_ =>
 .c Y1 (wagi (a5_, ((0 : Int), (r1_.1, (r2_, r21_)))) ((0 : Int), r1_.2.2.2)) fun r34_ =>
 .l (r1_.1, (r2_, (r21_, r34_)))
noncomputable def wamp (a1_ : Y1) (a2_ : List Y1) (a3_ : Y1) (a4_ : Int) (a5_ : Int) : Option (Int × (Y1 × (Y2 × Y1))) := (wavm a1_ a2_ a3_ a4_ a5_).ev
noncomputable def wbjw : RetK := { acts := [.ren 896 1, .ren 581 2, .ren 582 3], res := [.cell 4 44], sh := (yj [.agg (yj [.arr 1, .arr 2, .arr 3, .dat yi])]), obs := [(1, .arr 3 yi), (2, .rows 22 3 yi), (3, .arr 3 yi)], pins := [] }
noncomputable def wavn : FD := yd (yj [.agg (yj [.dat y1, .dat y2, .dat y1, .dat yi]), .dat yi]) [] [] (Int × (Y1 × (Y2 × Y1))) (fun x => wamp x.1.1.1 x.1.1.2.1 x.1.1.2.2.1 x.1.1.2.2.2.1 x.1.2.1) (fun r => ([.agg [.arr 1, .arr 2, .arr 3, .dat yi r.1]], [(1, .arr 3 yi r.2.1), (2, .rows 22 3 yi r.2.2.1 none), (3, .arr 3 yi r.2.2.2)]))
noncomputable def wamq : Env := wac [(146, wamm), (159, wavl)]
noncomputable def wamr : List (Nat × LD) := [(0, wym), (2, wyn)]
noncomputable def wams : Code := (f149.body).getD .skip
noncomputable def wavo (a1_ : Y1) (a2_ : List Y1) (a3_ : Y1) : Tr (Bool) :=
 .c (Bool) (wabi a1_ a2_) fun r1_ =>
 .t r1_
 (.c (Bool) (wafz a1_ a2_ a3_) fun r2_ =>
 .t r2_
 (.l (decide ((0 : Int) < ((length a3_ : Nat) : Int))))
 (.l false))
 (.l false)
noncomputable def wamt (a1_ : Y1) (a2_ : List Y1) (a3_ : Y1) : Option (Bool) := (wavo a1_ a2_ a3_).ev
noncomputable def wbjx : RetK := yr [.tmp 4] (yj [.dat .bool])
noncomputable def wavp : FD := yd (yj [.agg (yj [.dat y1, .dat y2]), .dat y1]) [] [] Bool (fun x => wamt x.1.1.1 x.1.1.2.1 x.1.2.1) (fun r => ([.dat .bool r], []))
noncomputable def wjs (k : Y1 × (Int × ((Nat) × (Y1 × (Y2 × (Y2 × Y2)))))) (v : Int × Y2) : Tr ((Int × Y2) ⊕ Y2) :=
 .t (decide (v.1 < ((length k.2.2.2.1 : Nat) : Int)))
 (.c (Bool) (wnb k.1 v.1) fun r20_ =>
 .t (!r20_)
 (.c Y1 (wta (getD k.2.2.2.2.2.2 k.2.2.1 ([] : Y1)) v.1) fun r21_ =>
 .g (decide ((length v.2 + 1) * 24 ≤ 140737488355328)) <|
 .l (.inl ((wrap .i64 (v.1 + 1)), (set (v.2 ++ [[]]) (length v.2) r21_))))
 (.l (.inl ((wrap .i64 (v.1 + 1)), v.2))))
 (.l (.inr v.2))
noncomputable def wagj (k : Y1 × (Int × ((Nat) × (Y1 × (Y2 × (Y2 × Y2)))))) (v : Int × Y2) : Option Y2 := iter (fun v => (wjs k v).ev) v
noncomputable def wyo : LD := ⟨{ acts := [], S := { slots := [1, 2, 5, 6, 7, 8, 9, 10], sh := (yj [.dat y1, .box 2 0, .arr 11, .arr 12, .arr 13, .dat yi, .row 12, .dat yi]), obs := [(2, .cells (yj [.dat y1, .dat y2])), (11, .rows 22 3 yi), (12, .rows 22 3 yi), (13, .rows 22 3 yi)] } }, [(2, { acts := [], S := { slots := [1, 2, 5, 6, 7, 8], sh := (yj [.dat y1, .box 2 0, .arr 11, .arr 12, .arr 13, .dat yi]), obs := [(2, .cells (yj [.dat y1, .dat y2])), (11, .rows 22 3 yi), (12, .rows 22 3 yi), (13, .rows 22 3 yi)] } })], (yh [] .nil), Y1 × (Int × ((Nat) × (Y1 × (Y2 × (Y2 × Y2))))), Int × Y2, List Y1, fun k v => ((k.1, ((), ((), ((), ((), (k.2.1, (k.2.2.1, (v.1, ())))))))), ((k.2.2.2.1, (k.2.2.2.2.1, ())), (k.2.2.2.2.2.1, (k.2.2.2.2.2.2, (v.2, ()))))), fun t => (t.1.1, (t.1.2.2.2.2.2.1, (t.1.2.2.2.2.2.2.1, (t.2.1.1, (t.2.1.2.1, (t.2.2.1, t.2.2.2.1)))))), fun t => (t.1.2.2.2.2.2.2.2.1, t.2.2.2.2.1), wjs, fun k r => .l (.exit 2 (wbe ({ slots := [1, 2, 5, 6, 7, 8], sh := (yj [.dat y1, .box 2 0, .arr 11, .arr 12, .arr 13, .dat yi]), obs := [(2, .cells (yj [.dat y1, .dat y2])), (11, .rows 22 3 yi), (12, .rows 22 3 yi), (13, .rows 22 3 yi)] }) ((k.1, ((), ((), ((), ((), (k.2.1, ())))))), ((k.2.2.2.1, (k.2.2.2.2.1, ())), (k.2.2.2.2.2.1, (k.2.2.2.2.2.2, (r, ())))))))⟩
noncomputable def wcm (k : Y1 × (Int × (Y1 × (Y2 × (Y2 × (Y2 × Y1)))))) (v : Int × Y2) : Tr ((Int × Y2) ⊕ Y2) :=
 .t (decide (v.1 < ((length k.2.2.1 : Nat) : Int)))
 (.c (Bool) (wnb k.1 v.1) fun r39_ =>
 .t (!r39_)
 (.c Y1 (wta k.2.2.2.2.2.2 v.1) fun r40_ =>
 .g (decide ((length v.2 + 1) * 24 ≤ 140737488355328)) <|
 .l (.inl ((wrap .i64 (v.1 + 1)), (set (v.2 ++ [[]]) (length v.2) r40_))))
 (.l (.inl ((wrap .i64 (v.1 + 1)), v.2))))
 (.l (.inr v.2))
noncomputable def wne (k : Y1 × (Int × (Y1 × (Y2 × (Y2 × (Y2 × Y1)))))) (v : Int × Y2) : Option Y2 := iter (fun v => (wcm k v).ev) v
noncomputable def wkp : LD := ⟨{ acts := [], S := { slots := [1, 2, 5, 6, 7, 8, 9, 10], sh := (yj [.dat y1, .box 2 0, .arr 11, .arr 12, .arr 13, .dat yi, .arr 2112, .dat yi]), obs := [(2, .cells (yj [.dat y1, .dat y2])), (11, .rows 22 3 yi), (12, .rows 22 3 yi), (13, .rows 22 3 yi), (2112, .arr 3 yi)] } }, [(2, { acts := [], S := { slots := [1, 2, 5, 6, 7, 8], sh := (yj [.dat y1, .box 2 0, .arr 11, .arr 12, .arr 13, .dat yi]), obs := [(2, .cells (yj [.dat y1, .dat y2])), (11, .rows 22 3 yi), (12, .rows 22 3 yi), (13, .rows 22 3 yi)] } })], (yh [] .nil), Y1 × (Int × (Y1 × (Y2 × (Y2 × (Y2 × Y1))))), Int × Y2, List Y1, fun k v => ((k.1, ((), ((), ((), ((), (k.2.1, ((), (v.1, ())))))))), ((k.2.2.1, (k.2.2.2.1, ())), (k.2.2.2.2.1, (k.2.2.2.2.2.1, (v.2, (k.2.2.2.2.2.2, ())))))), fun t => (t.1.1, (t.1.2.2.2.2.2.1, (t.2.1.1, (t.2.1.2.1, (t.2.2.1, (t.2.2.2.1, t.2.2.2.2.2.1)))))), fun t => (t.1.2.2.2.2.2.2.2.1, t.2.2.2.2.1), wcm, fun k r => .l (.exit 2 (wbe ({ slots := [1, 2, 5, 6, 7, 8], sh := (yj [.dat y1, .box 2 0, .arr 11, .arr 12, .arr 13, .dat yi]), obs := [(2, .cells (yj [.dat y1, .dat y2])), (11, .rows 22 3 yi), (12, .rows 22 3 yi), (13, .rows 22 3 yi)] }) ((k.1, ((), ((), ((), ((), (k.2.1, ())))))), ((k.2.2.1, (k.2.2.2.1, ())), (k.2.2.2.2.1, (k.2.2.2.2.2.1, (r, ())))))))⟩
noncomputable def wgu (k : Y1 × (Y1 × Y2)) (v : Int × (Y2 × (Y2 × Y2))) : Tr ((Int × (Y2 × (Y2 × Y2))) ⊕ (Y2 × (Y2 × Y2))) :=
 .t (decide (v.1 < ((length k.2.1 : Nat) : Int)))
 (.c (Bool) (wnb k.1 v.1) fun r8_ =>
 .t (!r8_)
 (.c Y1 (wta k.1 v.1) fun r9_ =>
 .g (decide ((length v.2.1 + 1) * 24 ≤ 140737488355328)) <|
 .l (.inl ((wrap .i64 (v.1 + 1)), ((set (v.2.1 ++ [[]]) (length v.2.1) r9_), (v.2.2.1, v.2.2.2)))))
 (.c Y1 (wabl k.1 v.1) fun r10_ =>
 .t (decide ((0 : Int) < ((length r10_ : Nat) : Int)))
 (.g (decide ((length v.2.2.1 + 1) * 24 ≤ 140737488355328)) <|
 .c Y2 (wagj (k.1, (v.1, ((length v.2.2.1), (k.2.1, (k.2.2, (v.2.1, (set (v.2.2.1 ++ [[]]) (length v.2.2.1) r10_))))))) ((0 : Int), v.2.2.2)) fun r29_ =>
 .l (.inl ((wrap .i64 (v.1 + 1)), (v.2.1, ((set (v.2.2.1 ++ [[]]) (length v.2.2.1) r10_), r29_)))))
 (.c Y2 (wne (k.1, (v.1, (k.2.1, (k.2.2, (v.2.1, (v.2.2.1, r10_)))))) ((0 : Int), v.2.2.2)) fun r48_ =>
 .l (.inl ((wrap .i64 (v.1 + 1)), (v.2.1, (v.2.2.1, r48_)))))))
 (.l (.inr (v.2.1, (v.2.2.1, v.2.2.2))))
noncomputable def wagk (k : Y1 × (Y1 × Y2)) (v : Int × (Y2 × (Y2 × Y2))) : Option (Y2 × (Y2 × Y2)) := iter (fun v => (wgu k v).ev) v
noncomputable def wyp : LD := ⟨{ acts := [], S := { slots := [1, 2, 5, 6, 7, 8], sh := (yj [.dat y1, .box 2 0, .arr 11, .arr 12, .arr 13, .dat yi]), obs := [(2, .cells (yj [.dat y1, .dat y2])), (11, .rows 22 3 yi), (12, .rows 22 3 yi), (13, .rows 22 3 yi)] } }, [(0, { acts := [], S := { slots := [5, 6, 7], sh := (yj [.arr 11, .arr 12, .arr 13]), obs := [(11, .rows 22 3 yi), (12, .rows 22 3 yi), (13, .rows 22 3 yi)] } })], (yh [] .nil), Y1 × (Y1 × Y2), Int × (Y2 × (Y2 × Y2)), Y2 × (Y2 × Y2), fun k v => ((k.1, ((), ((), ((), ((), (v.1, ())))))), ((k.2.1, (k.2.2, ())), (v.2.1, (v.2.2.1, (v.2.2.2, ()))))), fun t => (t.1.1, (t.2.1.1, t.2.1.2.1)), fun t => (t.1.2.2.2.2.2.1, (t.2.2.1, (t.2.2.2.1, t.2.2.2.2.1))), wgu, fun _ r => .l (.exit 0 (wbe ({ slots := [5, 6, 7], sh := (yj [.arr 11, .arr 12, .arr 13]), obs := [(11, .rows 22 3 yi), (12, .rows 22 3 yi), (13, .rows 22 3 yi)] }) (((), ((), ((), ()))), (r.1, (r.2.1, (r.2.2, ()))))))⟩
noncomputable def wavq (a1_ : Y1) (a2_ : List Y1) (a3_ : Y1) : Tr Y2 :=
 .c (Y2 × (Y2 × Y2)) (wagk (a3_, (a1_, a2_)) ((0 : Int), (([] : List Y1), (([] : List Y1), ([] : List Y1))))) fun r52_ =>
 .g (decide ((length r52_.1 + length r52_.2.1) * 24 ≤ 140737488355328)) <|
 .g (decide ((length (r52_.1 ++ r52_.2.1) + length r52_.2.2) * 24 ≤ 140737488355328)) <|
 .l ((r52_.1 ++ r52_.2.1) ++ r52_.2.2)
noncomputable def wamu (a1_ : Y1) (a2_ : List Y1) (a3_ : Y1) : Option Y2 := (wavq a1_ a2_ a3_).ev
noncomputable def wbjy : RetK := { acts := [.ren 13 0], res := [.tmp 4], sh := (yj [.arr 0]), obs := [(0, .rows 22 3 yi)], pins := [] }
noncomputable def wavr : FD := yd (yj [.agg (yj [.dat y1, .dat y2]), .dat y1]) [] [] (List Y1) (fun x => wamu x.1.1.1 x.1.1.2.1 x.1.2.1) (fun r => ([.arr 0], [(0, .rows 22 3 yi r none)]))
noncomputable def wagl : Nat → Nat → List Nat := fun r i => match look [(1, [(0, [1000000]), (1, [1000000]), (2, [1000000])])] r with
 | some l => (look l i).getD []
 | none => []
noncomputable def wagm : Env := wac [(144, wagd), (147, wamn), (148, wamo)]
noncomputable def wagn : List (Nat × LD) := [(2, wyo), (2, wkp), (0, wyp)]
noncomputable def wago : Code := (f163.body).getD .skip
noncomputable def wjt (k : Int × (Y1 × (Y1 × Y2))) (v : Int × Int) : Tr ((Int × Int) ⊕ (Int)) :=
 .t (decide (v.2 < ((length k.2.1 : Nat) : Int)))
 (.g (inR k.1 (length k.2.2.2)) <|
 .g (inR v.2 (length k.2.1)) <|
 .g (inR (getD k.2.1 (toNat v.2) 0) (length (getD k.2.2.2 (toNat k.1) ([] : Y1)))) <|
 .g (inR k.1 (length k.2.2.2)) <|
 .g (inR v.1 (length (getD k.2.2.2 (toNat k.1) ([] : Y1)))) <|
 .t (decide ((getD (getD k.2.2.2 (toNat k.1) ([] : Y1)) (toNat (getD k.2.1 (toNat v.2) 0)) (0 : Int)) < (getD (getD k.2.2.2 (toNat k.1) ([] : Y1)) (toNat v.1) (0 : Int))))
 (.g (inR v.2 (length k.2.1)) <|
 .l (.inl ((getD k.2.1 (toNat v.2) 0), (wrap .i64 (v.2 + 1)))))
 (.l (.inl (v.1, (wrap .i64 (v.2 + 1))))))
 (.l (.inr v.1))
noncomputable def wqt (k : Int × (Y1 × (Y1 × Y2))) (v : Int × Int) : Option (Int) := iter (fun v => (wjt k v).ev) v
noncomputable def wyq : LD := ⟨{ acts := [], S := { slots := [1, 2, 3, 7, 8], sh := (yj [.dat yi, .dat y1, .box 3 0, .dat yi, .dat yi]), obs := [(3, .cells (yj [.dat y1, .dat y2]))] } }, [(0, (yh [7] (yj [.dat yi])))], (yh [] .nil), Int × (Y1 × (Y1 × Y2)), Int × (Int), Int, fun k v => ((k.1, (k.2.1, ((), (v.1, (v.2, ()))))), ((k.2.2.1, (k.2.2.2, ())), ())), fun t => (t.1.1, (t.1.2.1, (t.2.1.1, t.2.1.2.1))), fun t => (t.1.2.2.2.1, t.1.2.2.2.2.1), wjt, fun _ r => .l (.exit 0 (wbe ((ys [7] (yj [.dat yi]))) ((r, ()), ())))⟩
noncomputable def wavs (a1_ : Y1) (a2_ : List Y1) (a3_ : Int) (a4_ : Y1) : Tr (Int) :=
 .g (inR 0 (length a4_)) <|
 .c (Int) (wqt (a3_, (a4_, (a1_, a2_))) ((getD a4_ (toNat 0) 0), (1 : Int))) fun r8_ =>
 .l r8_
noncomputable def wamv (a1_ : Y1) (a2_ : List Y1) (a3_ : Int) (a4_ : Y1) : Option (Int) := (wavs a1_ a2_ a3_ a4_).ev
noncomputable def wbjz : RetK := yr [.tmp 6] (yj [.dat yi])
noncomputable def wavt : FD := yd (yj [.agg (yj [.dat y1, .dat y2]), .dat yi, .dat y1]) [] [] Int (fun x => wamv x.1.1.1 x.1.1.2.1 x.1.2.1 x.1.2.2.1) (fun r => ([.dat yi r], []))
noncomputable def wavu : Env := wac []
noncomputable def wavv : List (Nat × LD) := [(0, wyq)]
noncomputable def wavw : Code := (f126.body).getD .skip
noncomputable def wavx (a1_ : Y1) (a2_ : List Y1) (a3_ : Int) (a4_ : Y1) : Tr (Int) :=
 .g (inR a3_ (length a2_)) <|
 .c (Int) (wamv a1_ a2_ a3_ a4_) fun r1_ =>
 .g (inR r1_ (length (getD a2_ (toNat a3_) ([] : Y1)))) <|
 .l (getD (getD a2_ (toNat a3_) ([] : Y1)) (toNat r1_) (0 : Int))
noncomputable def wamw (a1_ : Y1) (a2_ : List Y1) (a3_ : Int) (a4_ : Y1) : Option (Int) := (wavx a1_ a2_ a3_ a4_).ev
noncomputable def wbka : RetK := yr [.tmp 6] (yj [.dat yi])
noncomputable def wavy : FD := yd (yj [.agg (yj [.dat y1, .dat y2]), .dat yi, .dat y1]) [] [] Int (fun x => wamw x.1.1.1 x.1.1.2.1 x.1.2.1 x.1.2.2.1) (fun r => ([.dat yi r], []))
noncomputable def wnf (k : Y1 × (Y1 × Y2)) (v : Int × Int) : Tr ((Int × Int) ⊕ (Int)) :=
 .t (decide (v.2 < ((length k.2.2 : Nat) : Int)))
 (.c (Int) (wamw k.2.1 k.2.2 v.2 k.1) fun r6_ =>
 .l (.inl ((wrap .i64 (v.1 + r6_)), (wrap .i64 (v.2 + 1)))))
 (.l (.inr v.1))
noncomputable def wagp (k : Y1 × (Y1 × Y2)) (v : Int × Int) : Option (Int) := iter (fun v => (wnf k v).ev) v
noncomputable def wyr : LD := ⟨{ acts := [], S := { slots := [1, 2, 5, 6], sh := (yj [.dat y1, .box 2 0, .dat yi, .dat yi]), obs := [(2, .cells (yj [.dat y1, .dat y2]))] } }, [(0, (yh [5] (yj [.dat yi])))], (yh [] .nil), Y1 × (Y1 × Y2), Int × (Int), Int, fun k v => ((k.1, ((), (v.1, (v.2, ())))), ((k.2.1, (k.2.2, ())), ())), fun t => (t.1.1, (t.2.1.1, t.2.1.2.1)), fun t => (t.1.2.2.1, t.1.2.2.2.1), wnf, fun _ r => .l (.exit 0 (wbe ((ys [5] (yj [.dat yi]))) ((r, ()), ())))⟩
noncomputable def wavz (a1_ : Y1) (a2_ : List Y1) (a3_ : Y1) : Tr (Int) :=
 .c (Int) (wagp (a3_, (a1_, a2_)) ((0 : Int), (0 : Int))) fun r8_ =>
 .l r8_
noncomputable def wamx (a1_ : Y1) (a2_ : List Y1) (a3_ : Y1) : Option (Int) := (wavz a1_ a2_ a3_).ev
noncomputable def wbkb : RetK := yr [.tmp 4] (yj [.dat yi])
noncomputable def wawa : FD := yd (yj [.agg (yj [.dat y1, .dat y2]), .dat y1]) [] [] Int (fun x => wamx x.1.1.1 x.1.1.2.1 x.1.2.1) (fun r => ([.dat yi r], []))
noncomputable def wawb : Env := wac [(104, wavy)]
noncomputable def wawc : List (Nat × LD) := [(0, wyr)]
noncomputable def wawd : Code := (f75.body).getD .skip
noncomputable def wng (k : Y1 × (Y1 × Y2)) (v : Int × Int) : Tr ((Int × Int) ⊕ (Int)) :=
 .t (decide (v.2 < ((length k.1 : Nat) : Int)))
 (.g (inR v.2 (length k.1)) <|
 .g (inR (getD k.1 (toNat v.2) 0) (length k.2.1)) <|
 .l (.inl ((wrap .i64 (v.1 + (getD k.2.1 (toNat (getD k.1 (toNat v.2) 0)) (0 : Int)))), (wrap .i64 (v.2 + 1)))))
 (.l (.inr v.1))
noncomputable def wagq (k : Y1 × (Y1 × Y2)) (v : Int × Int) : Option (Int) := iter (fun v => (wng k v).ev) v
noncomputable def wys : LD := ⟨{ acts := [], S := { slots := [1, 2, 5, 6], sh := (yj [.dat y1, .box 2 0, .dat yi, .dat yi]), obs := [(2, .cells (yj [.dat y1, .dat y2]))] } }, [(0, (yh [5] (yj [.dat yi])))], (yh [] .nil), Y1 × (Y1 × Y2), Int × (Int), Int, fun k v => ((k.1, ((), (v.1, (v.2, ())))), ((k.2.1, (k.2.2, ())), ())), fun t => (t.1.1, (t.2.1.1, t.2.1.2.1)), fun t => (t.1.2.2.1, t.1.2.2.2.1), wng, fun _ r => .l (.exit 0 (wbe ((ys [5] (yj [.dat yi]))) ((r, ()), ())))⟩
noncomputable def wawe (a1_ : Y1) (a2_ : List Y1) (a3_ : Y1) : Tr (Int) :=
 .c (Int) (wagq (a3_, (a1_, a2_)) ((0 : Int), (0 : Int))) fun r7_ =>
 .l r7_
noncomputable def wamy (a1_ : Y1) (a2_ : List Y1) (a3_ : Y1) : Option (Int) := (wawe a1_ a2_ a3_).ev
noncomputable def wbkc : RetK := yr [.tmp 4] (yj [.dat yi])
noncomputable def wawf : FD := yd (yj [.agg (yj [.dat y1, .dat y2]), .dat y1]) [] [] Int (fun x => wamy x.1.1.1 x.1.1.2.1 x.1.2.1) (fun r => ([.dat yi r], []))
noncomputable def wawg : Env := wac []
noncomputable def wawh : List (Nat × LD) := [(0, wys)]
noncomputable def wawi : Code := (f76.body).getD .skip
noncomputable def wawj (a1_ : Y1) (a2_ : List Y1) (a3_ : Y1) : Tr (Int) :=
 .c (Int) (wamx a1_ a2_ a3_) fun r1_ =>
 .c (Int) (wamy a1_ a2_ a3_) fun r2_ =>
 .l (wrap .i64 (r1_ + r2_))
noncomputable def woj (a1_ : Y1) (a2_ : List Y1) (a3_ : Y1) : Option (Int) := (wawj a1_ a2_ a3_).ev
noncomputable def wbkd : RetK := yr [.tmp 4] (yj [.dat yi])
noncomputable def wagr : FD := yd (yj [.agg (yj [.dat y1, .dat y2]), .dat y1]) [] [] Int (fun x => woj x.1.1.1 x.1.1.2.1 x.1.2.1) (fun r => ([.dat yi r], []))
noncomputable def wju (k : Y1 × (Y1 × (Y2 × Y2))) (v : Int) : Tr ((Int) ⊕ ((Unit) ⊕ (Nat))) :=
 .t (decide (v < ((length k.2.2.2 : Nat) : Int)))
 (.g (inR v (length k.2.2.2)) <|
 .g (decide ((toNat v) < length k.2.2.2)) <|
 .c (Int) (woj k.2.1 k.2.2.1 (getD k.2.2.2 (toNat v) ([] : Y1))) fun r7_ =>
 .c (Int) (woj k.2.1 k.2.2.1 k.1) fun r8_ =>
 .t (decide (r7_ < r8_))
 (.g (inR v (length k.2.2.2)) <|
 .g (decide ((toNat v) < length k.2.2.2)) <|
 .l (.inr (.inr (toNat v))))
 (.l (.inl (wrap .i64 (v + 1)))))
 (.l (.inr (.inl ())))
noncomputable def wags (k : Y1 × (Y1 × (Y2 × Y2))) (v : Int) : Option ((Unit) ⊕ (Nat)) := iter (fun v => (wju k v).ev) v
noncomputable def wyt : LD := ⟨{ acts := [], S := { slots := [1, 2, 6, 7], sh := (yj [.dat y1, .box 2 0, .arr 640, .dat yi]), obs := [(2, .cells (yj [.dat y1, .dat y2])), (640, .rows 22 3 yi)] } }, [(0, (yh [] .nil))], { acts := [], S := { slots := [4, 5], sh := (yj [.row 640, .dat .bool]), obs := [(640, .rows 22 3 yi)] } }, Y1 × (Y1 × (Y2 × Y2)), Int, (Unit) ⊕ (Nat), fun k v => ((k.1, ((), ((), (v, ())))), ((k.2.1, (k.2.2.1, ())), (k.2.2.2, ()))), fun t => (t.1.1, (t.2.1.1, (t.2.1.2.1, t.2.2.1))), fun t => t.1.2.2.2.1, wju, fun k r => .s (Unit) (Nat) r (fun _ => .l (.exit 0 (wbe ((ys [] .nil)) ((), ())))) (fun b => .l (.ret (wbe ({ slots := [4, 5], sh := (yj [.row 640, .dat .bool]), obs := [(640, .rows 22 3 yi)] }) ((b, (true, ())), (k.2.2.2, ())))))⟩
noncomputable def wawk (a1_ : Y1) (a2_ : List Y1) (a3_ : Y1) : Tr (Bool × Y1) :=
 .c Y2 (wamu a1_ a2_ a3_) fun r1_ =>
 .c ((Unit) ⊕ (Nat)) (wags (a3_, (a1_, (a2_, r1_))) (0 : Int)) fun r12_ =>
 .s (Unit) (Nat) r12_
 (fun _ => .l (false, ([] : Y1)))
 (fun r14_ => .l (true, (getD r1_ r14_ ([] : Y1))))
noncomputable def wagt (a1_ : Y1) (a2_ : List Y1) (a3_ : Y1) : Option (Bool × Y1) := (wawk a1_ a2_ a3_).ev
noncomputable def wbke : RetK := { acts := [.pull 4 800000, .ren 31 0, .ren 800000 0], res := [.tmp 4, .tmp 5], sh := (yj [.arr 0, .dat .bool]), obs := [(0, .arr 3 yi)], pins := [] }
noncomputable def wawl : FD := yd (yj [.agg (yj [.dat y1, .dat y2]), .dat y1]) [] [] (Bool × Y1) (fun x => wagt x.1.1.1 x.1.1.2.1 x.1.2.1) (fun r => ([.arr 0, .dat .bool r.1], [(0, .arr 3 yi r.2)]))
noncomputable def wawm : Env := wac [(163, wavr), (48, wagr)]
noncomputable def wawn : List (Nat × LD) := [(0, wyt)]
noncomputable def wawo : Code := (f161.body).getD .skip
noncomputable def wnh (k : Y1 × Y2) (v : Int × (Bool × (Y1 × Y1))) : Tr ((Int × (Bool × (Y1 × Y1))) ⊕ (Int × Y1)) :=
 .t v.2.1
 (.c (Bool × Y1) (wagt k.1 k.2 v.2.2.2) fun r10_ =>
 .l (.inl ((wrap .i64 (v.1 + 1)), (r10_.1, (v.2.2.2, r10_.2)))))
 (.l (.inr (v.1, v.2.2.1)))
noncomputable def wni (k : Y1 × Y2) (v : Int × (Bool × (Y1 × Y1))) : Option (Int × Y1) := iter (fun v => (wnh k v).ev) v
noncomputable def wyu : LD := ⟨{ acts := [.drop 900707, .pin 7 900707, .pin 9 900709], S := { slots := [2, 7, 8, 9, 10], sh := (yj [.box 2 0, .arr 900707, .dat yi, .arr 900709, .dat .bool]), obs := [(2, .cells (yj [.dat y1, .dat y2])), (900707, .arr 3 yi), (900709, .arr 3 yi)] } }, [(0, { acts := [], S := { slots := [7, 8], sh := (yj [.arr 900707, .dat yi]), obs := [(900707, .arr 3 yi)] } })], (yh [] .nil), Y1 × Y2, Int × (Bool × (Y1 × Y1)), Int × Y1, fun k v => (((), ((), (v.1, ((), (v.2.1, ()))))), ((k.1, (k.2, ())), (v.2.2.1, (v.2.2.2, ())))), fun t => (t.2.1.1, t.2.1.2.1), fun t => (t.1.2.2.1, (t.1.2.2.2.2.1, (t.2.2.1, t.2.2.2.1))), wnh, fun _ r => .l (.exit 0 (wbe ({ slots := [7, 8], sh := (yj [.arr 900707, .dat yi]), obs := [(900707, .arr 3 yi)] }) (((), (r.1, ())), (r.2, ()))))⟩
noncomputable def wawp (a1_ : Y1) (a2_ : List Y1) (a3_ : Y1) : Tr (Int × (Bool × Y1)) :=
 .c (Bool) (wamt a1_ a2_ a3_) fun r1_ =>
 .t (!r1_)
 (.l ((0 : Int), (false, ([] : Y1))))
 (.c Y1 (wgt a3_) fun r2_ =>
 .c (Bool × Y1) (wagt a1_ a2_ r2_) fun r3_ =>
 .c (Int × Y1) (wni (a1_, a2_) ((0 : Int), (r3_.1, (r2_, r3_.2)))) fun r13_ =>
 .l (r13_.1, (true, r13_.2)))
noncomputable def wamz (a1_ : Y1) (a2_ : List Y1) (a3_ : Y1) : Option (Int × (Bool × Y1)) := (wawp a1_ a2_ a3_).ev
noncomputable def wbkf : RetK := { acts := [.ren 15 0, .ren 900707 0], res := [.tmp 4, .tmp 5, .tmp 6], sh := (yj [.arr 0, .dat yi, .dat .bool]), obs := [(0, .arr 3 yi)], pins := [] }
noncomputable def wawq : FD := yd (yj [.agg (yj [.dat y1, .dat y2]), .dat y1]) [] [] (Int × (Bool × Y1)) (fun x => wamz x.1.1.1 x.1.1.2.1 x.1.2.1) (fun r => ([.arr 0, .dat yi r.1, .dat .bool r.2.1], [(0, .arr 3 yi r.2.2)]))
noncomputable def wawr : Env := wac [(160, wavp), (140, wsw), (161, wawl)]
noncomputable def waws : List (Nat × LD) := [(0, wyu)]
noncomputable def wawt : Code := (f150.body).getD .skip
noncomputable def wqu (k : Y1 × Y1) (v : Int) : Tr ((Int) ⊕ ((Unit) ⊕ (Bool))) :=
 .t (decide (v < ((length k.1 : Nat) : Int)))
 (.g (inR v (length k.1)) <|
 .g (inR v (length k.2)) <|
 .t ((getD k.1 (toNat v) 0) != (getD k.2 (toNat v) 0))
 (.g (inR v (length k.1)) <|
 .g (inR v (length k.2)) <|
 .l (.inr (.inr (decide ((getD k.1 (toNat v) 0) < (getD k.2 (toNat v) 0))))))
 (.l (.inl (wrap .i64 (v + 1)))))
 (.l (.inr (.inl ())))
noncomputable def wvo (k : Y1 × Y1) (v : Int) : Option ((Unit) ⊕ (Bool)) := iter (fun v => (wqu k v).ev) v
noncomputable def wyv : LD := ⟨(yh [0, 1, 5] (yj [.dat y1, .dat y1, .dat yi])), [(0, (yh [] .nil))], (yh [4] (yj [.dat .bool])), Y1 × Y1, Int, (Unit) ⊕ (Bool), fun k v => ((k.1, (k.2, (v, ()))), ()), fun t => (t.1.1, t.1.2.1), fun t => t.1.2.2.1, wqu, fun _ r => .s (Unit) (Bool) r (fun _ => .l (.exit 0 (wbe ((ys [] .nil)) ((), ())))) (fun b => .l (.ret (wbe ((ys [4] (yj [.dat .bool]))) ((b, ()), ()))))⟩
noncomputable def wana (a1_ : Y1) (a2_ : Y1) : Tr (Bool) :=
 .t (((length a1_ : Nat) : Int) != ((length a2_ : Nat) : Int))
 (.l (decide (((length a1_ : Nat) : Int) < ((length a2_ : Nat) : Int))))
 (.c ((Unit) ⊕ (Bool)) (wvo (a1_, a2_) (0 : Int)) fun r5_ =>
 .s (Unit) (Bool) r5_
 (fun _ => .l false)
 (fun r7_ => .l r7_))
noncomputable def wanb (a1_ : Y1) (a2_ : Y1) : Option (Bool) := (wana a1_ a2_).ev
noncomputable def wbkg : RetK := yr [.tmp 4] (yj [.dat .bool])
noncomputable def wawu : FD := yd (yj [.dat y1, .dat y1]) [] [] Bool (fun x => wanb x.1.1 x.1.2.1) (fun r => ([.dat .bool r], []))
noncomputable def wawv : Env := wac []
noncomputable def waww : List (Nat × LD) := [(0, wyv)]
noncomputable def wawx : Code := (f87.body).getD .skip
end Go.Proofs.Ytnagpmhaddfgmaa
