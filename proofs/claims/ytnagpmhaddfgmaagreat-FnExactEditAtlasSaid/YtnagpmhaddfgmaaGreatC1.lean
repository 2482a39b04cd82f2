import Derived.Test.YtnagpmhaddfgmaaGreatC3
import Derived.Test.YtnagpmhaddfgmaaGreatProg
namespace Go.Proofs.YtnagpmhaddfgmaaGreat
open Go.Proofs.Tryz
open List (length getD set)
open Int (toNat)
open IntKind (wrap)
noncomputable def waro (a1_ : Int) : Tr (Int) :=
 .c (Int) (warn a1_) fun r1_ =>
 .l r1_
noncomputable def wakj (a1_ : Int) : Option (Int) := (waro a1_).ev
noncomputable def wbxy : RetK := yr [.tmp 2] (yj [.dat yi])
noncomputable def warp : FD := yd (yj [.dat (.int .u64)]) [] [] Int (fun x => wakj x.1.1) (fun r => ([.dat yi r], []))
noncomputable def wqx (k : Int × (Int × (((HL [y1, y1] → Option (Int))) × Int))) (v : Int × ((List Nat) × Y2)) : Tr ((Int × ((List Nat) × Y2)) ⊕ ((List Nat) × Y2)) :=
 .t (decide (k.1 < v.1))
 (.g (inR v.1 (length v.2.1)) <|
 .g (decide ((toNat v.1) < length v.2.1) && decide ((getD v.2.1 (toNat v.1) 0) < length v.2.2)) <|
 .g (inR (wrap .i64 (v.1 - 1)) (length v.2.1)) <|
 .g (decide ((toNat (wrap .i64 (v.1 - 1))) < length v.2.1) && decide ((getD v.2.1 (toNat (wrap .i64 (v.1 - 1))) 0) < length v.2.2)) <|
 .c (Int) (k.2.2.1 ((getD v.2.2 (getD v.2.1 (toNat v.1) 0) ([] : Y1)), ((getD v.2.2 (getD v.2.1 (toNat (wrap .i64 (v.1 - 1))) 0) ([] : Y1)), ()))) fun r12_ =>
 .t (decide (r12_ < 0))
 (.g (inR (wrap .i64 (v.1 - 1)) (length v.2.1)) <|
 .g (decide ((toNat (wrap .i64 (v.1 - 1))) < length v.2.1) && decide ((getD v.2.1 (toNat (wrap .i64 (v.1 - 1))) 0) < length v.2.2)) <|
 .g (inR v.1 (length v.2.1)) <|
 .g (decide ((toNat v.1) < length v.2.1) && decide ((getD v.2.1 (toNat v.1) 0) < length v.2.2)) <|
 .g (inR v.1 (length v.2.1)) <|
 .g (decide ((toNat v.1) < length v.2.1)) <|
 .g (inR (wrap .i64 (v.1 - 1)) (length (set v.2.1 (toNat v.1) (getD v.2.1 (toNat (wrap .i64 (v.1 - 1))) 0)))) <|
 .g (decide ((toNat (wrap .i64 (v.1 - 1))) < length (set v.2.1 (toNat v.1) (getD v.2.1 (toNat (wrap .i64 (v.1 - 1))) 0)))) <|
 .l (.inl ((wrap .i64 (v.1 - 1)), ((set (set v.2.1 (toNat v.1) (getD v.2.1 (toNat (wrap .i64 (v.1 - 1))) 0)) (toNat (wrap .i64 (v.1 - 1))) (getD v.2.1 (toNat v.1) 0)), v.2.2))))
 (.l (.inr v.2)))
 (.l (.inr v.2))
noncomputable def wyb (k : Int × (Int × (((HL [y1, y1] → Option (Int))) × Int))) (v : Int × ((List Nat) × Y2)) : Option ((List Nat) × Y2) := iter (fun v => (wqx k v).ev) v
noncomputable def wabp : LD := ⟨{ acts := [], S := { slots := [0, 1, 2, 3, 8, 9], sh := (yj [.arr 64, .dat yi, .dat yi, .clo [y1, y1] yi, .dat yi, .dat yi]), obs := [(64, .perm 24 3 yi)] } }, [(2, { acts := [], S := { slots := [0, 1, 2, 3, 8], sh := (yj [.arr 64, .dat yi, .dat yi, .clo [y1, y1] yi, .dat yi]), obs := [(64, .perm 24 3 yi)] } })], (yh [] .nil), Int × (Int × (((HL [y1, y1] → Option (Int))) × Int)), Int × ((List Nat) × Y2), (List Nat) × Y2, fun k v => (((), (k.1, (k.2.1, (k.2.2.1, (k.2.2.2, (v.1, ())))))), (v.2, ())), fun t => (t.1.2.1, (t.1.2.2.1, (t.1.2.2.2.1, t.1.2.2.2.2.1))), fun t => (t.1.2.2.2.2.2.1, t.2.1), wqx, fun k r => .l (.exit 2 (wbd ({ slots := [0, 1, 2, 3, 8], sh := (yj [.arr 64, .dat yi, .dat yi, .clo [y1, y1] yi, .dat yi]), obs := [(64, .perm 24 3 yi)] }) (((), (k.1, (k.2.1, (k.2.2.1, (k.2.2.2, ()))))), (r, ()))))⟩
noncomputable def wqy (k : Int × (Int × ((HL [y1, y1] → Option (Int))))) (v : Int × ((List Nat) × Y2)) : Tr ((Int × ((List Nat) × Y2)) ⊕ ((List Nat) × Y2)) :=
 .t (decide (v.1 < k.2.1))
 (.c ((List Nat) × Y2) (wyb (k.1, (k.2.1, (k.2.2, v.1))) (v.1, v.2)) fun r18_ =>
 .l (.inl ((wrap .i64 (v.1 + 1)), r18_)))
 (.l (.inr v.2))
noncomputable def wyc (k : Int × (Int × ((HL [y1, y1] → Option (Int))))) (v : Int × ((List Nat) × Y2)) : Option ((List Nat) × Y2) := iter (fun v => (wqy k v).ev) v
noncomputable def wabq : LD := ⟨{ acts := [], S := { slots := [0, 1, 2, 3, 8], sh := (yj [.arr 64, .dat yi, .dat yi, .clo [y1, y1] yi, .dat yi]), obs := [(64, .perm 24 3 yi)] } }, [(0, { acts := [], S := { slots := [0], sh := (yj [.arr 64]), obs := [(64, .perm 24 3 yi)] } })], (yh [] .nil), Int × (Int × ((HL [y1, y1] → Option (Int)))), Int × ((List Nat) × Y2), (List Nat) × Y2, fun k v => (((), (k.1, (k.2.1, (k.2.2, (v.1, ()))))), (v.2, ())), fun t => (t.1.2.1, (t.1.2.2.1, t.1.2.2.2.1)), fun t => (t.1.2.2.2.2.1, t.2.1), wqy, fun _ r => .l (.exit 0 (wbd ({ slots := [0], sh := (yj [.arr 64]), obs := [(64, .perm 24 3 yi)] }) (((), ()), (r, ()))))⟩
noncomputable def warq (a2_ : Int) (a3_ : Int) (a4_ : (HL [y1, y1] → Option (Int))) (a1_ : (List Nat) × Y2) : Tr ((List Nat) × Y2) :=
 .c ((List Nat) × Y2) (wyc (a2_, (a3_, a4_)) ((wrap .i64 (a2_ + 1)), a1_)) fun r20_ =>
 .l r20_
noncomputable def warr (a2_ : Int) (a3_ : Int) (a4_ : (HL [y1, y1] → Option (Int))) (a1_ : (List Nat) × Y2) : Option ((List Nat) × Y2) := (warq a2_ a3_ a4_ a1_).ev
noncomputable def wbxz : RetK := { acts := [], res := [], sh := .nil, obs := [(64, .perm 24 3 yi)], pins := [(0, 0, 64)] }
noncomputable def wbfb : FD := yd (yj [.arr 64, .dat yi, .dat yi, .clo [y1, y1] yi]) [(64, .perm 24 3 yi)] [.arg 0] ((List Nat) × Y2) (fun x => warr x.1.2.1 x.1.2.2.1 x.1.2.2.2.1 x.2.1) (fun r => ([], [(64, .perm false 24 3 yi r.1 r.2)]))
noncomputable def wars : Env := waa []
noncomputable def wart : List (Nat × LD) := [(2, wabp), (0, wabq)]
noncomputable def waru : Code := (f251.body).getD .skip
noncomputable def warv (a1_ : Int) : Tr (Int) :=
 .c (Int) (wakj (wrap .u64 a1_)) fun r1_ =>
 .g (decide (0 ≤ r1_)) <|
 .l (wrap .u64 ((1 : Int) * 2 ^ (min (toNat r1_) (IntKind.bits .u64))))
noncomputable def warw (a1_ : Int) : Option (Int) := (warv a1_).ev
noncomputable def wbya : RetK := yr [.tmp 2] (yj [.dat (.int .u64)])
noncomputable def wbfc : FD := yd (yj [.dat yi]) [] [] Int (fun x => warw x.1.1) (fun r => ([.dat (.int .u64) r], []))
noncomputable def warx (a1_ : Int) : Tr (Int × Int) :=
 .g (decide ((0 : Int) ≤ (13 : Int))) <|
 .g (decide ((0 : Int) ≤ (7 : Int))) <|
 .g (decide ((0 : Int) ≤ (17 : Int))) <|
 .l ((wrap .u64 (BitVec.toNat ((BitVec.ofInt (IntKind.bits .u64) (wrap .u64 (BitVec.toNat ((BitVec.ofInt (IntKind.bits .u64) (wrap .u64 (BitVec.toNat ((BitVec.ofInt (IntKind.bits .u64) a1_) ^^^ (BitVec.ofInt (IntKind.bits .u64) (wrap .u64 (a1_ * 2 ^ (min (toNat 13) (IntKind.bits .u64))))))))) ^^^ (BitVec.ofInt (IntKind.bits .u64) (Int.fdiv (wrap .u64 (BitVec.toNat ((BitVec.ofInt (IntKind.bits .u64) a1_) ^^^ (BitVec.ofInt (IntKind.bits .u64) (wrap .u64 (a1_ * 2 ^ (min (toNat 13) (IntKind.bits .u64)))))))) (2 ^ (min (toNat 7) (IntKind.bits .u64))))))))) ^^^ (BitVec.ofInt (IntKind.bits .u64) (wrap .u64 ((wrap .u64 (BitVec.toNat ((BitVec.ofInt (IntKind.bits .u64) (wrap .u64 (BitVec.toNat ((BitVec.ofInt (IntKind.bits .u64) a1_) ^^^ (BitVec.ofInt (IntKind.bits .u64) (wrap .u64 (a1_ * 2 ^ (min (toNat 13) (IntKind.bits .u64))))))))) ^^^ (BitVec.ofInt (IntKind.bits .u64) (Int.fdiv (wrap .u64 (BitVec.toNat ((BitVec.ofInt (IntKind.bits .u64) a1_) ^^^ (BitVec.ofInt (IntKind.bits .u64) (wrap .u64 (a1_ * 2 ^ (min (toNat 13) (IntKind.bits .u64)))))))) (2 ^ (min (toNat 7) (IntKind.bits .u64)))))))) * 2 ^ (min (toNat 17) (IntKind.bits .u64)))))))), (wrap .u64 (BitVec.toNat ((BitVec.ofInt (IntKind.bits .u64) (wrap .u64 (BitVec.toNat ((BitVec.ofInt (IntKind.bits .u64) (wrap .u64 (BitVec.toNat ((BitVec.ofInt (IntKind.bits .u64) a1_) ^^^ (BitVec.ofInt (IntKind.bits .u64) (wrap .u64 (a1_ * 2 ^ (min (toNat 13) (IntKind.bits .u64))))))))) ^^^ (BitVec.ofInt (IntKind.bits .u64) (Int.fdiv (wrap .u64 (BitVec.toNat ((BitVec.ofInt (IntKind.bits .u64) a1_) ^^^ (BitVec.ofInt (IntKind.bits .u64) (wrap .u64 (a1_ * 2 ^ (min (toNat 13) (IntKind.bits .u64)))))))) (2 ^ (min (toNat 7) (IntKind.bits .u64))))))))) ^^^ (BitVec.ofInt (IntKind.bits .u64) (wrap .u64 ((wrap .u64 (BitVec.toNat ((BitVec.ofInt (IntKind.bits .u64) (wrap .u64 (BitVec.toNat ((BitVec.ofInt (IntKind.bits .u64) a1_) ^^^ (BitVec.ofInt (IntKind.bits .u64) (wrap .u64 (a1_ * 2 ^ (min (toNat 13) (IntKind.bits .u64))))))))) ^^^ (BitVec.ofInt (IntKind.bits .u64) (Int.fdiv (wrap .u64 (BitVec.toNat ((BitVec.ofInt (IntKind.bits .u64) a1_) ^^^ (BitVec.ofInt (IntKind.bits .u64) (wrap .u64 (a1_ * 2 ^ (min (toNat 13) (IntKind.bits .u64)))))))) (2 ^ (min (toNat 7) (IntKind.bits .u64)))))))) * 2 ^ (min (toNat 17) (IntKind.bits .u64)))))))))
noncomputable def wary (a1_ : Int) : Option (Int × Int) := (warx a1_).ev
noncomputable def wbyb : RetK := { acts := [], res := [.tmp 2], sh := (yj [.dat (.int .u64)]), obs := [(64, .cells (yj [.dat (.int .u64)]))], pins := [(0, 0, 64)] }
noncomputable def wbfd : FD := yd (yj [.box 64 0]) [(64, .cells (yj [.dat (.int .u64)]))] [.arg 0] (Int × (Int)) (fun x => wary x.2.1.1) (fun r => ([.dat (.int .u64) r.1], [(64, .cells [.dat (.int .u64) r.2])]))
noncomputable def wqz (k : Int × (Int × Int)) (v : Int × (((List Nat) × Y2) × Int)) : Tr ((Int × (((List Nat) × Y2) × Int)) ⊕ ((List Nat) × Y2)) :=
 .g (!decide ((4 : Int) = 0)) <|
 .t (decide (v.1 ≤ (wrap .i64 ((wrap .i64 (k.1 + (wrap .i64 ((wrap .i64 (Int.tdiv k.2.1 (4 : Int))) * (2 : Int))))) + 1))))
 (.c (Int × Int) (wary v.2.2) fun r8_ =>
 .t (decide (k.2.1 ≤ (wrap .i64 (wrap .u64 (BitVec.toNat ((BitVec.ofInt (IntKind.bits .u64) r8_.1) &&& (BitVec.ofInt (IntKind.bits .u64) (wrap .u64 (k.2.2 - 1)))))))))
 (.g (inR (wrap .i64 (k.1 + (wrap .i64 ((wrap .i64 (wrap .u64 (BitVec.toNat ((BitVec.ofInt (IntKind.bits .u64) r8_.1) &&& (BitVec.ofInt (IntKind.bits .u64) (wrap .u64 (k.2.2 - 1))))))) - k.2.1)))) (length v.2.1.1)) <|
 .g (decide ((toNat (wrap .i64 (k.1 + (wrap .i64 ((wrap .i64 (wrap .u64 (BitVec.toNat ((BitVec.ofInt (IntKind.bits .u64) r8_.1) &&& (BitVec.ofInt (IntKind.bits .u64) (wrap .u64 (k.2.2 - 1))))))) - k.2.1))))) < length v.2.1.1) && decide ((getD v.2.1.1 (toNat (wrap .i64 (k.1 + (wrap .i64 ((wrap .i64 (wrap .u64 (BitVec.toNat ((BitVec.ofInt (IntKind.bits .u64) r8_.1) &&& (BitVec.ofInt (IntKind.bits .u64) (wrap .u64 (k.2.2 - 1))))))) - k.2.1))))) 0) < length v.2.1.2)) <|
 .g (inR v.1 (length v.2.1.1)) <|
 .g (decide ((toNat v.1) < length v.2.1.1) && decide ((getD v.2.1.1 (toNat v.1) 0) < length v.2.1.2)) <|
 .g (inR v.1 (length v.2.1.1)) <|
 .g (decide ((toNat v.1) < length v.2.1.1)) <|
 .g (inR (wrap .i64 (k.1 + (wrap .i64 ((wrap .i64 (wrap .u64 (BitVec.toNat ((BitVec.ofInt (IntKind.bits .u64) r8_.1) &&& (BitVec.ofInt (IntKind.bits .u64) (wrap .u64 (k.2.2 - 1))))))) - k.2.1)))) (length (set v.2.1.1 (toNat v.1) (getD v.2.1.1 (toNat (wrap .i64 (k.1 + (wrap .i64 ((wrap .i64 (wrap .u64 (BitVec.toNat ((BitVec.ofInt (IntKind.bits .u64) r8_.1) &&& (BitVec.ofInt (IntKind.bits .u64) (wrap .u64 (k.2.2 - 1))))))) - k.2.1))))) 0)))) <|
 .g (decide ((toNat (wrap .i64 (k.1 + (wrap .i64 ((wrap .i64 (wrap .u64 (BitVec.toNat ((BitVec.ofInt (IntKind.bits .u64) r8_.1) &&& (BitVec.ofInt (IntKind.bits .u64) (wrap .u64 (k.2.2 - 1))))))) - k.2.1))))) < length (set v.2.1.1 (toNat v.1) (getD v.2.1.1 (toNat (wrap .i64 (k.1 + (wrap .i64 ((wrap .i64 (wrap .u64 (BitVec.toNat ((BitVec.ofInt (IntKind.bits .u64) r8_.1) &&& (BitVec.ofInt (IntKind.bits .u64) (wrap .u64 (k.2.2 - 1))))))) - k.2.1))))) 0)))) <|
 .l (.inl ((wrap .i64 (v.1 + 1)), (((set (set v.2.1.1 (toNat v.1) (getD v.2.1.1 (toNat (wrap .i64 (k.1 + (wrap .i64 ((wrap .i64 (wrap .u64 (BitVec.toNat ((BitVec.ofInt (IntKind.bits .u64) r8_.1) &&& (BitVec.ofInt (IntKind.bits .u64) (wrap .u64 (k.2.2 - 1))))))) - k.2.1))))) 0)) (toNat (wrap .i64 (k.1 + (wrap .i64 ((wrap .i64 (wrap .u64 (BitVec.toNat ((BitVec.ofInt (IntKind.bits .u64) r8_.1) &&& (BitVec.ofInt (IntKind.bits .u64) (wrap .u64 (k.2.2 - 1))))))) - k.2.1))))) (getD v.2.1.1 (toNat v.1) 0)), v.2.1.2), r8_.2))))
 (.g (inR (wrap .i64 (k.1 + (wrap .i64 (wrap .u64 (BitVec.toNat ((BitVec.ofInt (IntKind.bits .u64) r8_.1) &&& (BitVec.ofInt (IntKind.bits .u64) (wrap .u64 (k.2.2 - 1))))))))) (length v.2.1.1)) <|
 .g (decide ((toNat (wrap .i64 (k.1 + (wrap .i64 (wrap .u64 (BitVec.toNat ((BitVec.ofInt (IntKind.bits .u64) r8_.1) &&& (BitVec.ofInt (IntKind.bits .u64) (wrap .u64 (k.2.2 - 1)))))))))) < length v.2.1.1) && decide ((getD v.2.1.1 (toNat (wrap .i64 (k.1 + (wrap .i64 (wrap .u64 (BitVec.toNat ((BitVec.ofInt (IntKind.bits .u64) r8_.1) &&& (BitVec.ofInt (IntKind.bits .u64) (wrap .u64 (k.2.2 - 1)))))))))) 0) < length v.2.1.2)) <|
 .g (inR v.1 (length v.2.1.1)) <|
 .g (decide ((toNat v.1) < length v.2.1.1) && decide ((getD v.2.1.1 (toNat v.1) 0) < length v.2.1.2)) <|
 .g (inR v.1 (length v.2.1.1)) <|
 .g (decide ((toNat v.1) < length v.2.1.1)) <|
 .g (inR (wrap .i64 (k.1 + (wrap .i64 (wrap .u64 (BitVec.toNat ((BitVec.ofInt (IntKind.bits .u64) r8_.1) &&& (BitVec.ofInt (IntKind.bits .u64) (wrap .u64 (k.2.2 - 1))))))))) (length (set v.2.1.1 (toNat v.1) (getD v.2.1.1 (toNat (wrap .i64 (k.1 + (wrap .i64 (wrap .u64 (BitVec.toNat ((BitVec.ofInt (IntKind.bits .u64) r8_.1) &&& (BitVec.ofInt (IntKind.bits .u64) (wrap .u64 (k.2.2 - 1)))))))))) 0)))) <|
 .g (decide ((toNat (wrap .i64 (k.1 + (wrap .i64 (wrap .u64 (BitVec.toNat ((BitVec.ofInt (IntKind.bits .u64) r8_.1) &&& (BitVec.ofInt (IntKind.bits .u64) (wrap .u64 (k.2.2 - 1)))))))))) < length (set v.2.1.1 (toNat v.1) (getD v.2.1.1 (toNat (wrap .i64 (k.1 + (wrap .i64 (wrap .u64 (BitVec.toNat ((BitVec.ofInt (IntKind.bits .u64) r8_.1) &&& (BitVec.ofInt (IntKind.bits .u64) (wrap .u64 (k.2.2 - 1)))))))))) 0)))) <|
 .l (.inl ((wrap .i64 (v.1 + 1)), (((set (set v.2.1.1 (toNat v.1) (getD v.2.1.1 (toNat (wrap .i64 (k.1 + (wrap .i64 (wrap .u64 (BitVec.toNat ((BitVec.ofInt (IntKind.bits .u64) r8_.1) &&& (BitVec.ofInt (IntKind.bits .u64) (wrap .u64 (k.2.2 - 1)))))))))) 0)) (toNat (wrap .i64 (k.1 + (wrap .i64 (wrap .u64 (BitVec.toNat ((BitVec.ofInt (IntKind.bits .u64) r8_.1) &&& (BitVec.ofInt (IntKind.bits .u64) (wrap .u64 (k.2.2 - 1)))))))))) (getD v.2.1.1 (toNat v.1) 0)), v.2.1.2), r8_.2)))))
 (.l (.inr v.2.1))
noncomputable def wyd (k : Int × (Int × Int)) (v : Int × (((List Nat) × Y2) × Int)) : Option ((List Nat) × Y2) := iter (fun v => (wqz k v).ev) v
noncomputable def wabr : LD := ⟨{ acts := [], S := { slots := [0, 1, 8, 9, 10, 11], sh := (yj [.arr 64, .dat yi, .dat yi, .box 9 0, .dat (.int .u64), .dat yi]), obs := [(64, .perm 24 3 yi), (9, .cells (yj [.dat (.int .u64)]))] } }, [(0, { acts := [], S := { slots := [0], sh := (yj [.arr 64]), obs := [(64, .perm 24 3 yi)] } })], (yh [] .nil), Int × (Int × Int), Int × (((List Nat) × Y2) × Int), (List Nat) × Y2, fun k v => (((), (k.1, (k.2.1, ((), (k.2.2, (v.1, ())))))), (v.2.1, ((v.2.2, ()), ()))), fun t => (t.1.2.1, (t.1.2.2.1, t.1.2.2.2.2.1)), fun t => (t.1.2.2.2.2.2.1, (t.2.1, t.2.2.1.1)), wqz, fun _ r => .l (.exit 0 (wbd ({ slots := [0], sh := (yj [.arr 64]), obs := [(64, .perm 24 3 yi)] }) (((), ()), (r, ()))))⟩
noncomputable def warz (a2_ : Int) (a3_ : Int) (_a4_ : (HL [y1, y1] → Option (Int))) (a1_ : (List Nat) × Y2) : Tr ((List Nat) × Y2) :=
 .t (decide ((8 : Int) ≤ (wrap .i64 (a3_ - a2_))))
 (.c (Int) (warw (wrap .i64 (a3_ - a2_))) fun r1_ =>
 .g (!decide ((4 : Int) = 0)) <|
 .c ((List Nat) × Y2) (wyd (a2_, ((wrap .i64 (a3_ - a2_)), r1_)) ((wrap .i64 ((wrap .i64 (a2_ + (wrap .i64 ((wrap .i64 (Int.tdiv (wrap .i64 (a3_ - a2_)) (4 : Int))) * (2 : Int))))) - 1)), (a1_, (wrap .u64 (wrap .i64 (a3_ - a2_)))))) fun r10_ =>
 .l r10_)
 (.l a1_)
noncomputable def wasa (a2_ : Int) (a3_ : Int) (a4_ : (HL [y1, y1] → Option (Int))) (a1_ : (List Nat) × Y2) : Option ((List Nat) × Y2) := (warz a2_ a3_ a4_ a1_).ev
noncomputable def wbyc : RetK := { acts := [], res := [], sh := .nil, obs := [(64, .perm 24 3 yi)], pins := [(0, 0, 64)] }
noncomputable def wbfe : FD := yd (yj [.arr 64, .dat yi, .dat yi, .clo [y1, y1] yi]) [(64, .perm 24 3 yi)] [.arg 0] ((List Nat) × Y2) (fun x => wasa x.1.2.1 x.1.2.2.1 x.1.2.2.2.1 x.2.1) (fun r => ([], [(64, .perm false 24 3 yi r.1 r.2)]))
noncomputable def wbff : Env := waa [(270, wbfc), (271, wbfd)]
noncomputable def wbfg : List (Nat × LD) := [(0, wabr)]
noncomputable def wbfh : Code := (f253.body).getD .skip
noncomputable def wasb (a1_ : List Y1) (a2_ : Int) (a3_ : Int) (a5_ : (HL [y1, y1] → Option (Int))) (a4_ : Int) : Tr (Int × (Int × Int)) :=
 .g (inR a3_ (length a1_)) <|
 .g (inR a2_ (length a1_)) <|
 .c (Int) (a5_ ((getD a1_ (toNat a3_) ([] : Y1)), ((getD a1_ (toNat a2_) ([] : Y1)), ()))) fun r1_ =>
 .t (decide (r1_ < 0))
 (.l (a3_, (a2_, (wrap .i64 (a4_ + 1)))))
 (.l (a2_, (a3_, a4_)))
noncomputable def waer (a1_ : List Y1) (a2_ : Int) (a3_ : Int) (a5_ : (HL [y1, y1] → Option (Int))) (a4_ : Int) : Option (Int × (Int × Int)) := (wasb a1_ a2_ a3_ a5_ a4_).ev
noncomputable def wbyd : RetK := { acts := [], res := [.tmp 10, .tmp 11], sh := (yj [.dat yi, .dat yi]), obs := [(64, .cells (yj [.dat yi]))], pins := [(3, 0, 64)] }
noncomputable def wbfi : FD := yd (yj [.dat y2, .dat yi, .dat yi, .box 64 0, .clo [y1, y1] yi]) [(64, .cells (yj [.dat yi]))] [.arg 3] (Int × (Int × Int)) (fun x => waer x.1.1 x.1.2.1 x.1.2.2.1 x.1.2.2.2.2.1 x.2.1.1) (fun r => ([.dat yi r.1, .dat yi r.2.1], [(64, .cells [.dat yi r.2.2])]))
noncomputable def wasc (a1_ : List Y1) (a2_ : Int) (a3_ : Int) (a4_ : Int) (a6_ : (HL [y1, y1] → Option (Int))) (a5_ : Int) : Tr (Int × Int) :=
 .c (Int × (Int × Int)) (waer a1_ a2_ a3_ a6_ a5_) fun r1_ =>
 .c (Int × (Int × Int)) (waer a1_ r1_.2.1 a4_ a6_ r1_.2.2) fun r2_ =>
 .c (Int × (Int × Int)) (waer a1_ r1_.1 r2_.1 a6_ r2_.2.2) fun r3_ =>
 .l (r3_.2.1, r3_.2.2)
noncomputable def waes (a1_ : List Y1) (a2_ : Int) (a3_ : Int) (a4_ : Int) (a6_ : (HL [y1, y1] → Option (Int))) (a5_ : Int) : Option (Int × Int) := (wasc a1_ a2_ a3_ a4_ a6_ a5_).ev
noncomputable def wbye : RetK := { acts := [], res := [.tmp 12], sh := (yj [.dat yi]), obs := [(64, .cells (yj [.dat yi]))], pins := [(4, 0, 64)] }
noncomputable def wasd : FD := yd (yj [.dat y2, .dat yi, .dat yi, .dat yi, .box 64 0, .clo [y1, y1] yi]) [(64, .cells (yj [.dat yi]))] [.arg 4] (Int × (Int)) (fun x => waes x.1.1 x.1.2.1 x.1.2.2.1 x.1.2.2.2.1 x.1.2.2.2.2.2.1 x.2.1.1) (fun r => ([.dat yi r.1], [(64, .cells [.dat yi r.2])]))
noncomputable def wase (a1_ : List Y1) (a2_ : Int) (a4_ : (HL [y1, y1] → Option (Int))) (a3_ : Int) : Tr (Int × Int) :=
 .c (Int × Int) (waes a1_ (wrap .i64 (a2_ - 1)) a2_ (wrap .i64 (a2_ + 1)) a4_ a3_) fun r1_ =>
 .l (r1_.1, r1_.2)
noncomputable def waet (a1_ : List Y1) (a2_ : Int) (a4_ : (HL [y1, y1] → Option (Int))) (a3_ : Int) : Option (Int × Int) := (wase a1_ a2_ a4_ a3_).ev
noncomputable def wbyf : RetK := { acts := [], res := [.tmp 8], sh := (yj [.dat yi]), obs := [(64, .cells (yj [.dat yi]))], pins := [(2, 0, 64)] }
noncomputable def wbfj : FD := yd (yj [.dat y2, .dat yi, .box 64 0, .clo [y1, y1] yi]) [(64, .cells (yj [.dat yi]))] [.arg 2] (Int × (Int)) (fun x => waet x.1.1 x.1.2.1 x.1.2.2.2.1 x.2.1.1) (fun r => ([.dat yi r.1], [(64, .cells [.dat yi r.2])]))
noncomputable def wasf (a1_ : List Y1) (a2_ : Int) (a3_ : Int) (a4_ : (HL [y1, y1] → Option (Int))) : Tr (Int × Int) :=
 .g (!decide ((4 : Int) = 0)) <|
 .g (!decide ((4 : Int) = 0)) <|
 .g (!decide ((4 : Int) = 0)) <|
 .t (decide ((8 : Int) ≤ (wrap .i64 (a3_ - a2_))))
 (.t (decide ((50 : Int) ≤ (wrap .i64 (a3_ - a2_))))
 (.c (Int × Int) (waet a1_ (wrap .i64 (a2_ + (wrap .i64 ((wrap .i64 (Int.tdiv (wrap .i64 (a3_ - a2_)) (4 : Int))) * (1 : Int))))) a4_ (0 : Int)) fun r1_ =>
 .c (Int × Int) (waet a1_ (wrap .i64 (a2_ + (wrap .i64 ((wrap .i64 (Int.tdiv (wrap .i64 (a3_ - a2_)) (4 : Int))) * (2 : Int))))) a4_ r1_.2) fun r2_ =>
 .c (Int × Int) (waet a1_ (wrap .i64 (a2_ + (wrap .i64 ((wrap .i64 (Int.tdiv (wrap .i64 (a3_ - a2_)) (4 : Int))) * (3 : Int))))) a4_ r2_.2) fun r3_ =>
 .c (Int × Int) (waes a1_ r1_.1 r2_.1 r3_.1 a4_ r3_.2) fun r4_ =>
 .t (r4_.2 == 0)
 (.l (r4_.1, (1 : Int)))
 (.t (r4_.2 == 12)
 (.l (r4_.1, (2 : Int)))
 (.l (r4_.1, (0 : Int)))))
 (.c (Int × Int) (waes a1_ (wrap .i64 (a2_ + (wrap .i64 ((wrap .i64 (Int.tdiv (wrap .i64 (a3_ - a2_)) (4 : Int))) * (1 : Int))))) (wrap .i64 (a2_ + (wrap .i64 ((wrap .i64 (Int.tdiv (wrap .i64 (a3_ - a2_)) (4 : Int))) * (2 : Int))))) (wrap .i64 (a2_ + (wrap .i64 ((wrap .i64 (Int.tdiv (wrap .i64 (a3_ - a2_)) (4 : Int))) * (3 : Int))))) a4_ (0 : Int)) fun r5_ =>
 .t (r5_.2 == 0)
 (.l (r5_.1, (1 : Int)))
 (.t (r5_.2 == 12)
 (.l (r5_.1, (2 : Int)))
 (.l (r5_.1, (0 : Int))))))
 (.t ((0 : Int) == (0 : Int))
 (.l ((wrap .i64 (a2_ + (wrap .i64 ((wrap .i64 (Int.tdiv (wrap .i64 (a3_ - a2_)) (4 : Int))) * (2 : Int))))), (1 : Int)))
 (.t ((0 : Int) == (12 : Int))
 (.l ((wrap .i64 (a2_ + (wrap .i64 ((wrap .i64 (Int.tdiv (wrap .i64 (a3_ - a2_)) (4 : Int))) * (2 : Int))))), (2 : Int)))
 (.l ((wrap .i64 (a2_ + (wrap .i64 ((wrap .i64 (Int.tdiv (wrap .i64 (a3_ - a2_)) (4 : Int))) * (2 : Int))))), (0 : Int)))))
noncomputable def wakk (a1_ : List Y1) (a2_ : Int) (a3_ : Int) (a4_ : (HL [y1, y1] → Option (Int))) : Option (Int × Int) := (wasf a1_ a2_ a3_ a4_).ev
noncomputable def wbyg : RetK := yr [.tmp 8, .tmp 9] (yj [.dat yi, .dat yi])
noncomputable def wbfk : FD := yd (yj [.dat y2, .dat yi, .dat yi, .clo [y1, y1] yi]) [] [] (Int × (Int)) (fun x => wakk x.1.1 x.1.2.1 x.1.2.2.1 x.1.2.2.2.1) (fun r => ([.dat yi r.1, .dat yi r.2], []))
noncomputable def wra (k : Int × (((HL [y1, y1] → Option (Int))) × (Int × ((List Nat) × Y2)))) (v : Int) : Tr ((Int) ⊕ (Int)) :=
 .t (decide (v ≤ k.2.2.1))
 (.g (inR v (length k.2.2.2.1)) <|
 .g (decide ((toNat v) < length k.2.2.2.1) && decide ((getD k.2.2.2.1 (toNat v) 0) < length k.2.2.2.2)) <|
 .g (inR k.1 (length k.2.2.2.1)) <|
 .g (decide ((toNat k.1) < length k.2.2.2.1) && decide ((getD k.2.2.2.1 (toNat k.1) 0) < length k.2.2.2.2)) <|
 .c (Int) (k.2.1 ((getD k.2.2.2.2 (getD k.2.2.2.1 (toNat v) 0) ([] : Y1)), ((getD k.2.2.2.2 (getD k.2.2.2.1 (toNat k.1) 0) ([] : Y1)), ()))) fun r6_ =>
 .t (decide (r6_ < 0))
 (.l (.inl (wrap .i64 (v + 1))))
 (.l (.inr v)))
 (.l (.inr v))
noncomputable def wye (k : Int × (((HL [y1, y1] → Option (Int))) × (Int × ((List Nat) × Y2)))) (v : Int) : Option (Int) := iter (fun v => (wra k v).ev) v
noncomputable def wabs : LD := ⟨{ acts := [], S := { slots := [0, 1, 4, 12, 13], sh := (yj [.arr 64, .dat yi, .clo [y1, y1] yi, .dat yi, .dat yi]), obs := [(64, .perm 24 3 yi)] } }, [(0, { acts := [], S := { slots := [0, 1, 4, 12, 13], sh := (yj [.arr 64, .dat yi, .clo [y1, y1] yi, .dat yi, .dat yi]), obs := [(64, .perm 24 3 yi)] } })], (yh [] .nil), Int × (((HL [y1, y1] → Option (Int))) × (Int × ((List Nat) × Y2))), Int, Int, fun k v => (((), (k.1, (k.2.1, (v, (k.2.2.1, ()))))), (k.2.2.2, ())), fun t => (t.1.2.1, (t.1.2.2.1, (t.1.2.2.2.2.1, t.2.1))), fun t => t.1.2.2.2.1, wra, fun k r => .l (.exit 0 (wbd ({ slots := [0, 1, 4, 12, 13], sh := (yj [.arr 64, .dat yi, .clo [y1, y1] yi, .dat yi, .dat yi]), obs := [(64, .perm 24 3 yi)] }) (((), (k.1, (k.2.1, (r, (k.2.2.1, ()))))), (k.2.2.2, ()))))⟩
noncomputable def wrb (k : Int × (((HL [y1, y1] → Option (Int))) × (Int × ((List Nat) × Y2)))) (v : Int) : Tr ((Int) ⊕ (Int)) :=
 .t (decide (k.2.2.1 ≤ v))
 (.g (inR v (length k.2.2.2.1)) <|
 .g (decide ((toNat v) < length k.2.2.2.1) && decide ((getD k.2.2.2.1 (toNat v) 0) < length k.2.2.2.2)) <|
 .g (inR k.1 (length k.2.2.2.1)) <|
 .g (decide ((toNat k.1) < length k.2.2.2.1) && decide ((getD k.2.2.2.1 (toNat k.1) 0) < length k.2.2.2.2)) <|
 .c (Int) (k.2.1 ((getD k.2.2.2.2 (getD k.2.2.2.1 (toNat v) 0) ([] : Y1)), ((getD k.2.2.2.2 (getD k.2.2.2.1 (toNat k.1) 0) ([] : Y1)), ()))) fun r18_ =>
 .t (!(decide (r18_ < 0)))
 (.l (.inl (wrap .i64 (v - 1))))
 (.l (.inr v)))
 (.l (.inr v))
noncomputable def wyf (k : Int × (((HL [y1, y1] → Option (Int))) × (Int × ((List Nat) × Y2)))) (v : Int) : Option (Int) := iter (fun v => (wrb k v).ev) v
noncomputable def wabt : LD := ⟨{ acts := [], S := { slots := [0, 1, 4, 12, 13], sh := (yj [.arr 64, .dat yi, .clo [y1, y1] yi, .dat yi, .dat yi]), obs := [(64, .perm 24 3 yi)] } }, [(2, { acts := [], S := { slots := [0, 1, 4, 12, 13], sh := (yj [.arr 64, .dat yi, .clo [y1, y1] yi, .dat yi, .dat yi]), obs := [(64, .perm 24 3 yi)] } })], (yh [] .nil), Int × (((HL [y1, y1] → Option (Int))) × (Int × ((List Nat) × Y2))), Int, Int, fun k v => (((), (k.1, (k.2.1, (k.2.2.1, (v, ()))))), (k.2.2.2, ())), fun t => (t.1.2.1, (t.1.2.2.1, (t.1.2.2.2.1, t.2.1))), fun t => t.1.2.2.2.2.1, wrb, fun k r => .l (.exit 2 (wbd ({ slots := [0, 1, 4, 12, 13], sh := (yj [.arr 64, .dat yi, .clo [y1, y1] yi, .dat yi, .dat yi]), obs := [(64, .perm 24 3 yi)] }) (((), (k.1, (k.2.1, (k.2.2.1, (r, ()))))), (k.2.2.2, ()))))⟩
noncomputable def wrc (k : Int × (((HL [y1, y1] → Option (Int))) × (Int × ((List Nat) × Y2)))) (v : Int) : Tr ((Int) ⊕ (Int)) :=
 .t (decide (v ≤ k.2.2.1))
 (.g (inR v (length k.2.2.2.1)) <|
 .g (decide ((toNat v) < length k.2.2.2.1) && decide ((getD k.2.2.2.1 (toNat v) 0) < length k.2.2.2.2)) <|
 .g (inR k.1 (length k.2.2.2.1)) <|
 .g (decide ((toNat k.1) < length k.2.2.2.1) && decide ((getD k.2.2.2.1 (toNat k.1) 0) < length k.2.2.2.2)) <|
 .c (Int) (k.2.1 ((getD k.2.2.2.2 (getD k.2.2.2.1 (toNat v) 0) ([] : Y1)), ((getD k.2.2.2.2 (getD k.2.2.2.1 (toNat k.1) 0) ([] : Y1)), ()))) fun r35_ =>
 .t (decide (r35_ < 0))
 (.l (.inl (wrap .i64 (v + 1))))
 (.l (.inr v)))
 (.l (.inr v))
noncomputable def wyg (k : Int × (((HL [y1, y1] → Option (Int))) × (Int × ((List Nat) × Y2)))) (v : Int) : Option (Int) := iter (fun v => (wrc k v).ev) v
noncomputable def wabu : LD := ⟨{ acts := [], S := { slots := [0, 1, 4, 12, 13], sh := (yj [.arr 64, .dat yi, .clo [y1, y1] yi, .dat yi, .dat yi]), obs := [(64, .perm 24 3 yi)] } }, [(6, { acts := [], S := { slots := [0, 1, 4, 12, 13], sh := (yj [.arr 64, .dat yi, .clo [y1, y1] yi, .dat yi, .dat yi]), obs := [(64, .perm 24 3 yi)] } })], (yh [] .nil), Int × (((HL [y1, y1] → Option (Int))) × (Int × ((List Nat) × Y2))), Int, Int, fun k v => (((), (k.1, (k.2.1, (v, (k.2.2.1, ()))))), (k.2.2.2, ())), fun t => (t.1.2.1, (t.1.2.2.1, (t.1.2.2.2.2.1, t.2.1))), fun t => t.1.2.2.2.1, wrc, fun k r => .l (.exit 6 (wbd ({ slots := [0, 1, 4, 12, 13], sh := (yj [.arr 64, .dat yi, .clo [y1, y1] yi, .dat yi, .dat yi]), obs := [(64, .perm 24 3 yi)] }) (((), (k.1, (k.2.1, (r, (k.2.2.1, ()))))), (k.2.2.2, ()))))⟩
noncomputable def wrd (k : Int × (((HL [y1, y1] → Option (Int))) × (Int × ((List Nat) × Y2)))) (v : Int) : Tr ((Int) ⊕ (Int)) :=
 .t (decide (k.2.2.1 ≤ v))
 (.g (inR v (length k.2.2.2.1)) <|
 .g (decide ((toNat v) < length k.2.2.2.1) && decide ((getD k.2.2.2.1 (toNat v) 0) < length k.2.2.2.2)) <|
 .g (inR k.1 (length k.2.2.2.1)) <|
 .g (decide ((toNat k.1) < length k.2.2.2.1) && decide ((getD k.2.2.2.1 (toNat k.1) 0) < length k.2.2.2.2)) <|
 .c (Int) (k.2.1 ((getD k.2.2.2.2 (getD k.2.2.2.1 (toNat v) 0) ([] : Y1)), ((getD k.2.2.2.2 (getD k.2.2.2.1 (toNat k.1) 0) ([] : Y1)), ()))) fun r47_ =>
 .t (!(decide (r47_ < 0)))
 (.l (.inl (wrap .i64 (v - 1))))
 (.l (.inr v)))
 (.l (.inr v))
noncomputable def wyh (k : Int × (((HL [y1, y1] → Option (Int))) × (Int × ((List Nat) × Y2)))) (v : Int) : Option (Int) := iter (fun v => (wrd k v).ev) v
noncomputable def wabv : LD := ⟨{ acts := [], S := { slots := [0, 1, 4, 12, 13], sh := (yj [.arr 64, .dat yi, .clo [y1, y1] yi, .dat yi, .dat yi]), obs := [(64, .perm 24 3 yi)] } }, [(8, { acts := [], S := { slots := [0, 1, 4, 12, 13], sh := (yj [.arr 64, .dat yi, .clo [y1, y1] yi, .dat yi, .dat yi]), obs := [(64, .perm 24 3 yi)] } })], (yh [] .nil), Int × (((HL [y1, y1] → Option (Int))) × (Int × ((List Nat) × Y2))), Int, Int, fun k v => (((), (k.1, (k.2.1, (k.2.2.1, (v, ()))))), (k.2.2.2, ())), fun t => (t.1.2.1, (t.1.2.2.1, (t.1.2.2.2.1, t.2.1))), fun t => t.1.2.2.2.2.1, wrd, fun k r => .l (.exit 8 (wbd ({ slots := [0, 1, 4, 12, 13], sh := (yj [.arr 64, .dat yi, .clo [y1, y1] yi, .dat yi, .dat yi]), obs := [(64, .perm 24 3 yi)] }) (((), (k.1, (k.2.1, (k.2.2.1, (r, ()))))), (k.2.2.2, ()))))⟩
noncomputable def wre (k : Int × ((HL [y1, y1] → Option (Int)))) (v : Int × (Int × ((List Nat) × Y2))) : Tr ((Int × (Int × ((List Nat) × Y2))) ⊕ (Int × ((List Nat) × Y2))) :=
 .c (Int) (wyg (k.1, (k.2, (v.2.1, v.2.2))) v.1) fun r41_ =>
 .c (Int) (wyh (k.1, (k.2, (r41_, v.2.2))) v.2.1) fun r53_ =>
 .t (decide (r53_ < r41_))
 (.l (.inr (r53_, v.2.2)))
 (.g (inR r53_ (length v.2.2.1)) <|
 .g (decide ((toNat r53_) < length v.2.2.1) && decide ((getD v.2.2.1 (toNat r53_) 0) < length v.2.2.2)) <|
 .g (inR r41_ (length v.2.2.1)) <|
 .g (decide ((toNat r41_) < length v.2.2.1) && decide ((getD v.2.2.1 (toNat r41_) 0) < length v.2.2.2)) <|
 .g (inR r41_ (length v.2.2.1)) <|
 .g (decide ((toNat r41_) < length v.2.2.1)) <|
 .g (inR r53_ (length (set v.2.2.1 (toNat r41_) (getD v.2.2.1 (toNat r53_) 0)))) <|
 .g (decide ((toNat r53_) < length (set v.2.2.1 (toNat r41_) (getD v.2.2.1 (toNat r53_) 0)))) <|
 .l (.inl ((wrap .i64 (r41_ + 1)), ((wrap .i64 (r53_ - 1)), ((set (set v.2.2.1 (toNat r41_) (getD v.2.2.1 (toNat r53_) 0)) (toNat r53_) (getD v.2.2.1 (toNat r41_) 0)), v.2.2.2)))))
noncomputable def wyi (k : Int × ((HL [y1, y1] → Option (Int)))) (v : Int × (Int × ((List Nat) × Y2))) : Option (Int × ((List Nat) × Y2)) := iter (fun v => (wre k v).ev) v
noncomputable def wabw : LD := ⟨{ acts := [], S := { slots := [0, 1, 4, 12, 13], sh := (yj [.arr 64, .dat yi, .clo [y1, y1] yi, .dat yi, .dat yi]), obs := [(64, .perm 24 3 yi)] } }, [(4, { acts := [], S := { slots := [0, 1, 13], sh := (yj [.arr 64, .dat yi, .dat yi]), obs := [(64, .perm 24 3 yi)] } })], (yh [] .nil), Int × ((HL [y1, y1] → Option (Int))), Int × (Int × ((List Nat) × Y2)), Int × ((List Nat) × Y2), fun k v => (((), (k.1, (k.2, (v.1, (v.2.1, ()))))), (v.2.2, ())), fun t => (t.1.2.1, t.1.2.2.1), fun t => (t.1.2.2.2.1, (t.1.2.2.2.2.1, t.2.1)), wre, fun k r => .l (.exit 4 (wbd ({ slots := [0, 1, 13], sh := (yj [.arr 64, .dat yi, .dat yi]), obs := [(64, .perm 24 3 yi)] }) (((), (k.1, (r.1, ()))), (r.2, ()))))⟩
noncomputable def wasg (a2_ : Int) (a3_ : Int) (a4_ : Int) (a5_ : (HL [y1, y1] → Option (Int))) (a1_ : (List Nat) × Y2) : Tr (Int × (Bool × ((List Nat) × Y2))) :=
 .g (inR a4_ (length a1_.1)) <|
 .g (decide ((toNat a4_) < length a1_.1) && decide ((getD a1_.1 (toNat a4_) 0) < length a1_.2)) <|
 .g (inR a2_ (length a1_.1)) <|
 .g (decide ((toNat a2_) < length a1_.1) && decide ((getD a1_.1 (toNat a2_) 0) < length a1_.2)) <|
 .g (inR a2_ (length a1_.1)) <|
 .g (decide ((toNat a2_) < length a1_.1)) <|
 .g (inR a4_ (length (set a1_.1 (toNat a2_) (getD a1_.1 (toNat a4_) 0)))) <|
 .g (decide ((toNat a4_) < length (set a1_.1 (toNat a2_) (getD a1_.1 (toNat a4_) 0)))) <|
 .c (Int) (wye (a2_, (a5_, ((wrap .i64 (a3_ - 1)), ((set (set a1_.1 (toNat a2_) (getD a1_.1 (toNat a4_) 0)) (toNat a4_) (getD a1_.1 (toNat a2_) 0)), a1_.2)))) (wrap .i64 (a2_ + 1))) fun r12_ =>
 .c (Int) (wyf (a2_, (a5_, (r12_, ((set (set a1_.1 (toNat a2_) (getD a1_.1 (toNat a4_) 0)) (toNat a4_) (getD a1_.1 (toNat a2_) 0)), a1_.2)))) (wrap .i64 (a3_ - 1))) fun r24_ =>
 .t (decide (r24_ < r12_))
 (.g (inR a2_ (length (set (set a1_.1 (toNat a2_) (getD a1_.1 (toNat a4_) 0)) (toNat a4_) (getD a1_.1 (toNat a2_) 0)))) <|
 .g (decide ((toNat a2_) < length (set (set a1_.1 (toNat a2_) (getD a1_.1 (toNat a4_) 0)) (toNat a4_) (getD a1_.1 (toNat a2_) 0))) && decide ((getD (set (set a1_.1 (toNat a2_) (getD a1_.1 (toNat a4_) 0)) (toNat a4_) (getD a1_.1 (toNat a2_) 0)) (toNat a2_) 0) < length a1_.2)) <|
 .g (inR r24_ (length (set (set a1_.1 (toNat a2_) (getD a1_.1 (toNat a4_) 0)) (toNat a4_) (getD a1_.1 (toNat a2_) 0)))) <|
 .g (decide ((toNat r24_) < length (set (set a1_.1 (toNat a2_) (getD a1_.1 (toNat a4_) 0)) (toNat a4_) (getD a1_.1 (toNat a2_) 0))) && decide ((getD (set (set a1_.1 (toNat a2_) (getD a1_.1 (toNat a4_) 0)) (toNat a4_) (getD a1_.1 (toNat a2_) 0)) (toNat r24_) 0) < length a1_.2)) <|
 .g (inR r24_ (length (set (set a1_.1 (toNat a2_) (getD a1_.1 (toNat a4_) 0)) (toNat a4_) (getD a1_.1 (toNat a2_) 0)))) <|
 .g (decide ((toNat r24_) < length (set (set a1_.1 (toNat a2_) (getD a1_.1 (toNat a4_) 0)) (toNat a4_) (getD a1_.1 (toNat a2_) 0)))) <|
 .g (inR a2_ (length (set (set (set a1_.1 (toNat a2_) (getD a1_.1 (toNat a4_) 0)) (toNat a4_) (getD a1_.1 (toNat a2_) 0)) (toNat r24_) (getD (set (set a1_.1 (toNat a2_) (getD a1_.1 (toNat a4_) 0)) (toNat a4_) (getD a1_.1 (toNat a2_) 0)) (toNat a2_) 0)))) <|
 .g (decide ((toNat a2_) < length (set (set (set a1_.1 (toNat a2_) (getD a1_.1 (toNat a4_) 0)) (toNat a4_) (getD a1_.1 (toNat a2_) 0)) (toNat r24_) (getD (set (set a1_.1 (toNat a2_) (getD a1_.1 (toNat a4_) 0)) (toNat a4_) (getD a1_.1 (toNat a2_) 0)) (toNat a2_) 0)))) <|
 .l (r24_, (true, ((set (set (set (set a1_.1 (toNat a2_) (getD a1_.1 (toNat a4_) 0)) (toNat a4_) (getD a1_.1 (toNat a2_) 0)) (toNat r24_) (getD (set (set a1_.1 (toNat a2_) (getD a1_.1 (toNat a4_) 0)) (toNat a4_) (getD a1_.1 (toNat a2_) 0)) (toNat a2_) 0)) (toNat a2_) (getD (set (set a1_.1 (toNat a2_) (getD a1_.1 (toNat a4_) 0)) (toNat a4_) (getD a1_.1 (toNat a2_) 0)) (toNat r24_) 0)), a1_.2))))
 (.g (inR r24_ (length (set (set a1_.1 (toNat a2_) (getD a1_.1 (toNat a4_) 0)) (toNat a4_) (getD a1_.1 (toNat a2_) 0)))) <|
 .g (decide ((toNat r24_) < length (set (set a1_.1 (toNat a2_) (getD a1_.1 (toNat a4_) 0)) (toNat a4_) (getD a1_.1 (toNat a2_) 0))) && decide ((getD (set (set a1_.1 (toNat a2_) (getD a1_.1 (toNat a4_) 0)) (toNat a4_) (getD a1_.1 (toNat a2_) 0)) (toNat r24_) 0) < length a1_.2)) <|
 .g (inR r12_ (length (set (set a1_.1 (toNat a2_) (getD a1_.1 (toNat a4_) 0)) (toNat a4_) (getD a1_.1 (toNat a2_) 0)))) <|
 .g (decide ((toNat r12_) < length (set (set a1_.1 (toNat a2_) (getD a1_.1 (toNat a4_) 0)) (toNat a4_) (getD a1_.1 (toNat a2_) 0))) && decide ((getD (set (set a1_.1 (toNat a2_) (getD a1_.1 (toNat a4_) 0)) (toNat a4_) (getD a1_.1 (toNat a2_) 0)) (toNat r12_) 0) < length a1_.2)) <|
 .g (inR r12_ (length (set (set a1_.1 (toNat a2_) (getD a1_.1 (toNat a4_) 0)) (toNat a4_) (getD a1_.1 (toNat a2_) 0)))) <|
 .g (decide ((toNat r12_) < length (set (set a1_.1 (toNat a2_) (getD a1_.1 (toNat a4_) 0)) (toNat a4_) (getD a1_.1 (toNat a2_) 0)))) <|
 .g (inR r24_ (length (set (set (set a1_.1 (toNat a2_) (getD a1_.1 (toNat a4_) 0)) (toNat a4_) (getD a1_.1 (toNat a2_) 0)) (toNat r12_) (getD (set (set a1_.1 (toNat a2_) (getD a1_.1 (toNat a4_) 0)) (toNat a4_) (getD a1_.1 (toNat a2_) 0)) (toNat r24_) 0)))) <|
 .g (decide ((toNat r24_) < length (set (set (set a1_.1 (toNat a2_) (getD a1_.1 (toNat a4_) 0)) (toNat a4_) (getD a1_.1 (toNat a2_) 0)) (toNat r12_) (getD (set (set a1_.1 (toNat a2_) (getD a1_.1 (toNat a4_) 0)) (toNat a4_) (getD a1_.1 (toNat a2_) 0)) (toNat r24_) 0)))) <|
 .c (Int × ((List Nat) × Y2)) (wyi (a2_, a5_) ((wrap .i64 (r12_ + 1)), ((wrap .i64 (r24_ - 1)), ((set (set (set (set a1_.1 (toNat a2_) (getD a1_.1 (toNat a4_) 0)) (toNat a4_) (getD a1_.1 (toNat a2_) 0)) (toNat r12_) (getD (set (set a1_.1 (toNat a2_) (getD a1_.1 (toNat a4_) 0)) (toNat a4_) (getD a1_.1 (toNat a2_) 0)) (toNat r24_) 0)) (toNat r24_) (getD (set (set a1_.1 (toNat a2_) (getD a1_.1 (toNat a4_) 0)) (toNat a4_) (getD a1_.1 (toNat a2_) 0)) (toNat r12_) 0)), a1_.2)))) fun r57_ =>
 .g (inR a2_ (length r57_.2.1)) <|
 .g (decide ((toNat a2_) < length r57_.2.1) && decide ((getD r57_.2.1 (toNat a2_) 0) < length r57_.2.2)) <|
 .g (inR r57_.1 (length r57_.2.1)) <|
 .g (decide ((toNat r57_.1) < length r57_.2.1) && decide ((getD r57_.2.1 (toNat r57_.1) 0) < length r57_.2.2)) <|
 .g (inR r57_.1 (length r57_.2.1)) <|
 .g (decide ((toNat r57_.1) < length r57_.2.1)) <|
 .g (inR a2_ (length (set r57_.2.1 (toNat r57_.1) (getD r57_.2.1 (toNat a2_) 0)))) <|
 .g (decide ((toNat a2_) < length (set r57_.2.1 (toNat r57_.1) (getD r57_.2.1 (toNat a2_) 0)))) <|
 .l (r57_.1, (false, ((set (set r57_.2.1 (toNat r57_.1) (getD r57_.2.1 (toNat a2_) 0)) (toNat a2_) (getD r57_.2.1 (toNat r57_.1) 0)), r57_.2.2))))
noncomputable def wgx (a2_ : Int) (a3_ : Int) (a4_ : Int) (a5_ : (HL [y1, y1] → Option (Int))) (a1_ : (List Nat) × Y2) : Option (Int × (Bool × ((List Nat) × Y2))) := (wasg a2_ a3_ a4_ a5_ a1_).ev
noncomputable def wbyh : RetK := { acts := [], res := [.tmp 10, .tmp 11], sh := (yj [.dat yi, .dat .bool]), obs := [(64, .perm 24 3 yi)], pins := [(0, 0, 64)] }
noncomputable def wbfl : FD := yd (yj [.arr 64, .dat yi, .dat yi, .dat yi, .clo [y1, y1] yi]) [(64, .perm 24 3 yi)] [.arg 0] (Int × (Bool × ((List Nat) × Y2))) (fun x => wgx x.1.2.1 x.1.2.2.1 x.1.2.2.2.1 x.1.2.2.2.2.1 x.2.1) (fun r => ([.dat yi r.1, .dat .bool r.2.1], [(64, .perm false 24 3 yi r.2.2.1 r.2.2.2)]))
noncomputable def wyj : Env := waa []
noncomputable def wyk : List (Nat × LD) := [(0, wabs), (2, wabt), (6, wabu), (8, wabv), (4, wabw)]
noncomputable def wyl : Code := (f258.body).getD .skip
noncomputable def wrf (rec_ : (Int) → (Int) → (Int) → ((HL [y1, y1] → Option (Int))) → ((List Nat) × Y2) → Option ((List Nat) × Y2)) (k : (HL [y1, y1] → Option (Int))) (v : Int × (Int × (Int × (Bool × (Bool × ((List Nat) × Y2)))))) : Tr ((Int × (Int × (Int × (Bool × (Bool × ((List Nat) × Y2)))))) ⊕ ((List Nat) × Y2)) :=
 .t (decide ((wrap .i64 (v.2.1 - v.1)) ≤ (12 : Int)))
 (.c ((List Nat) × Y2) (warr v.1 v.2.1 k v.2.2.2.2.2) fun r8_ =>
 .l (.inr r8_))
 (.t (v.2.2.1 == 0)
 (.f)
 (.t (!v.2.2.2.1)
 (.c ((List Nat) × Y2) (wasa v.1 v.2.1 k v.2.2.2.2.2) fun r9_ =>
 .c (Int × Int) (wakk (wdb r9_.1 r9_.2) v.1 v.2.1 k) fun r10_ =>
 .t (r10_.2 == 2)
 (.f)
 (.t v.2.2.2.1
 (.t v.2.2.2.2.1
 (.t (r10_.2 == 1)
 (.f)
 (.t (decide (0 < v.1))
 (.g (inR (wrap .i64 (v.1 - 1)) (length r9_.1)) <|
 .g (decide ((toNat (wrap .i64 (v.1 - 1))) < length r9_.1) && decide ((getD r9_.1 (toNat (wrap .i64 (v.1 - 1))) 0) < length r9_.2)) <|
 .g (inR r10_.1 (length r9_.1)) <|
 .g (decide ((toNat r10_.1) < length r9_.1) && decide ((getD r9_.1 (toNat r10_.1) 0) < length r9_.2)) <|
 .c (Int) (k ((getD r9_.2 (getD r9_.1 (toNat (wrap .i64 (v.1 - 1))) 0) ([] : Y1)), ((getD r9_.2 (getD r9_.1 (toNat r10_.1) 0) ([] : Y1)), ()))) fun r11_ =>
 .t (!(decide (r11_ < 0)))
 (.f)
 (.c (Int × (Bool × ((List Nat) × Y2))) (wgx v.1 v.2.1 r10_.1 k r9_) fun r12_ =>
 .g (!decide ((8 : Int) = 0)) <|
 .t (decide ((wrap .i64 (r12_.1 - v.1)) < (wrap .i64 (v.2.1 - r12_.1))))
 (.c ((List Nat) × Y2) (rec_ v.1 r12_.1 (wrap .i64 (v.2.2.1 - 1)) k r12_.2.2) fun r13_ =>
 .l (.inl ((wrap .i64 (r12_.1 + 1)), (v.2.1, ((wrap .i64 (v.2.2.1 - 1)), ((decide ((wrap .i64 (Int.tdiv (wrap .i64 (v.2.1 - v.1)) (8 : Int))) ≤ (wrap .i64 (r12_.1 - v.1)))), (r12_.2.1, r13_)))))))
 (.c ((List Nat) × Y2) (rec_ (wrap .i64 (r12_.1 + 1)) v.2.1 (wrap .i64 (v.2.2.1 - 1)) k r12_.2.2) fun r14_ =>
 .l (.inl (v.1, (r12_.1, ((wrap .i64 (v.2.2.1 - 1)), ((decide ((wrap .i64 (Int.tdiv (wrap .i64 (v.2.1 - v.1)) (8 : Int))) ≤ (wrap .i64 (v.2.1 - r12_.1)))), (r12_.2.1, r14_)))))))))
 (.c (Int × (Bool × ((List Nat) × Y2))) (wgx v.1 v.2.1 r10_.1 k r9_) fun r15_ =>
 .g (!decide ((8 : Int) = 0)) <|
 .t (decide ((wrap .i64 (r15_.1 - v.1)) < (wrap .i64 (v.2.1 - r15_.1))))
 (.c ((List Nat) × Y2) (rec_ v.1 r15_.1 (wrap .i64 (v.2.2.1 - 1)) k r15_.2.2) fun r16_ =>
 .l (.inl ((wrap .i64 (r15_.1 + 1)), (v.2.1, ((wrap .i64 (v.2.2.1 - 1)), ((decide ((wrap .i64 (Int.tdiv (wrap .i64 (v.2.1 - v.1)) (8 : Int))) ≤ (wrap .i64 (r15_.1 - v.1)))), (r15_.2.1, r16_)))))))
 (.c ((List Nat) × Y2) (rec_ (wrap .i64 (r15_.1 + 1)) v.2.1 (wrap .i64 (v.2.2.1 - 1)) k r15_.2.2) fun r17_ =>
 .l (.inl (v.1, (r15_.1, ((wrap .i64 (v.2.2.1 - 1)), ((decide ((wrap .i64 (Int.tdiv (wrap .i64 (v.2.1 - v.1)) (8 : Int))) ≤ (wrap .i64 (v.2.1 - r15_.1)))), (r15_.2.1, r17_))))))))))
 (.t (decide (0 < v.1))
 (.g (inR (wrap .i64 (v.1 - 1)) (length r9_.1)) <|
 .g (decide ((toNat (wrap .i64 (v.1 - 1))) < length r9_.1) && decide ((getD r9_.1 (toNat (wrap .i64 (v.1 - 1))) 0) < length r9_.2)) <|
 .g (inR r10_.1 (length r9_.1)) <|
 .g (decide ((toNat r10_.1) < length r9_.1) && decide ((getD r9_.1 (toNat r10_.1) 0) < length r9_.2)) <|
 .c (Int) (k ((getD r9_.2 (getD r9_.1 (toNat (wrap .i64 (v.1 - 1))) 0) ([] : Y1)), ((getD r9_.2 (getD r9_.1 (toNat r10_.1) 0) ([] : Y1)), ()))) fun r18_ =>
 .t (!(decide (r18_ < 0)))
 (.f)
 (.c (Int × (Bool × ((List Nat) × Y2))) (wgx v.1 v.2.1 r10_.1 k r9_) fun r19_ =>
 .g (!decide ((8 : Int) = 0)) <|
 .t (decide ((wrap .i64 (r19_.1 - v.1)) < (wrap .i64 (v.2.1 - r19_.1))))
 (.c ((List Nat) × Y2) (rec_ v.1 r19_.1 (wrap .i64 (v.2.2.1 - 1)) k r19_.2.2) fun r20_ =>
 .l (.inl ((wrap .i64 (r19_.1 + 1)), (v.2.1, ((wrap .i64 (v.2.2.1 - 1)), ((decide ((wrap .i64 (Int.tdiv (wrap .i64 (v.2.1 - v.1)) (8 : Int))) ≤ (wrap .i64 (r19_.1 - v.1)))), (r19_.2.1, r20_)))))))
 (.c ((List Nat) × Y2) (rec_ (wrap .i64 (r19_.1 + 1)) v.2.1 (wrap .i64 (v.2.2.1 - 1)) k r19_.2.2) fun r21_ =>
 .l (.inl (v.1, (r19_.1, ((wrap .i64 (v.2.2.1 - 1)), ((decide ((wrap .i64 (Int.tdiv (wrap .i64 (v.2.1 - v.1)) (8 : Int))) ≤ (wrap .i64 (v.2.1 - r19_.1)))), (r19_.2.1, r21_)))))))))
 (.c (Int × (Bool × ((List Nat) × Y2))) (wgx v.1 v.2.1 r10_.1 k r9_) fun r22_ =>
 .g (!decide ((8 : Int) = 0)) <|
 .t (decide ((wrap .i64 (r22_.1 - v.1)) < (wrap .i64 (v.2.1 - r22_.1))))
 (.c ((List Nat) × Y2) (rec_ v.1 r22_.1 (wrap .i64 (v.2.2.1 - 1)) k r22_.2.2) fun r23_ =>
 .l (.inl ((wrap .i64 (r22_.1 + 1)), (v.2.1, ((wrap .i64 (v.2.2.1 - 1)), ((decide ((wrap .i64 (Int.tdiv (wrap .i64 (v.2.1 - v.1)) (8 : Int))) ≤ (wrap .i64 (r22_.1 - v.1)))), (r22_.2.1, r23_)))))))
 (.c ((List Nat) × Y2) (rec_ (wrap .i64 (r22_.1 + 1)) v.2.1 (wrap .i64 (v.2.2.1 - 1)) k r22_.2.2) fun r24_ =>
 .l (.inl (v.1, (r22_.1, ((wrap .i64 (v.2.2.1 - 1)), ((decide ((wrap .i64 (Int.tdiv (wrap .i64 (v.2.1 - v.1)) (8 : Int))) ≤ (wrap .i64 (v.2.1 - r22_.1)))), (r22_.2.1, r24_))))))))))
 (.t (decide (0 < v.1))
 (.g (inR (wrap .i64 (v.1 - 1)) (length r9_.1)) <|
 .g (decide ((toNat (wrap .i64 (v.1 - 1))) < length r9_.1) && decide ((getD r9_.1 (toNat (wrap .i64 (v.1 - 1))) 0) < length r9_.2)) <|
 .g (inR r10_.1 (length r9_.1)) <|
 .g (decide ((toNat r10_.1) < length r9_.1) && decide ((getD r9_.1 (toNat r10_.1) 0) < length r9_.2)) <|
 .c (Int) (k ((getD r9_.2 (getD r9_.1 (toNat (wrap .i64 (v.1 - 1))) 0) ([] : Y1)), ((getD r9_.2 (getD r9_.1 (toNat r10_.1) 0) ([] : Y1)), ()))) fun r25_ =>
 .t (!(decide (r25_ < 0)))
 (.f)
 (.c (Int × (Bool × ((List Nat) × Y2))) (wgx v.1 v.2.1 r10_.1 k r9_) fun r26_ =>
 .g (!decide ((8 : Int) = 0)) <|
 .t (decide ((wrap .i64 (r26_.1 - v.1)) < (wrap .i64 (v.2.1 - r26_.1))))
 (.c ((List Nat) × Y2) (rec_ v.1 r26_.1 (wrap .i64 (v.2.2.1 - 1)) k r26_.2.2) fun r27_ =>
 .l (.inl ((wrap .i64 (r26_.1 + 1)), (v.2.1, ((wrap .i64 (v.2.2.1 - 1)), ((decide ((wrap .i64 (Int.tdiv (wrap .i64 (v.2.1 - v.1)) (8 : Int))) ≤ (wrap .i64 (r26_.1 - v.1)))), (r26_.2.1, r27_)))))))
 (.c ((List Nat) × Y2) (rec_ (wrap .i64 (r26_.1 + 1)) v.2.1 (wrap .i64 (v.2.2.1 - 1)) k r26_.2.2) fun r28_ =>
 .l (.inl (v.1, (r26_.1, ((wrap .i64 (v.2.2.1 - 1)), ((decide ((wrap .i64 (Int.tdiv (wrap .i64 (v.2.1 - v.1)) (8 : Int))) ≤ (wrap .i64 (v.2.1 - r26_.1)))), (r26_.2.1, r28_)))))))))
 (.c (Int × (Bool × ((List Nat) × Y2))) (wgx v.1 v.2.1 r10_.1 k r9_) fun r29_ =>
 .g (!decide ((8 : Int) = 0)) <|
 .t (decide ((wrap .i64 (r29_.1 - v.1)) < (wrap .i64 (v.2.1 - r29_.1))))
 (.c ((List Nat) × Y2) (rec_ v.1 r29_.1 (wrap .i64 (v.2.2.1 - 1)) k r29_.2.2) fun r30_ =>
 .l (.inl ((wrap .i64 (r29_.1 + 1)), (v.2.1, ((wrap .i64 (v.2.2.1 - 1)), ((decide ((wrap .i64 (Int.tdiv (wrap .i64 (v.2.1 - v.1)) (8 : Int))) ≤ (wrap .i64 (r29_.1 - v.1)))), (r29_.2.1, r30_)))))))
 (.c ((List Nat) × Y2) (rec_ (wrap .i64 (r29_.1 + 1)) v.2.1 (wrap .i64 (v.2.2.1 - 1)) k r29_.2.2) fun r31_ =>
 .l (.inl (v.1, (r29_.1, ((wrap .i64 (v.2.2.1 - 1)), ((decide ((wrap .i64 (Int.tdiv (wrap .i64 (v.2.1 - v.1)) (8 : Int))) ≤ (wrap .i64 (v.2.1 - r29_.1)))), (r29_.2.1, r31_)))))))))))
 (.c (Int × Int) (wakk (wdb v.2.2.2.2.2.1 v.2.2.2.2.2.2) v.1 v.2.1 k) fun r32_ =>
 .t (r32_.2 == 2)
 (.f)
 (.t v.2.2.2.1
 (.t v.2.2.2.2.1
 (.t (r32_.2 == 1)
 (.f)
 (.t (decide (0 < v.1))
 (.g (inR (wrap .i64 (v.1 - 1)) (length v.2.2.2.2.2.1)) <|
 .g (decide ((toNat (wrap .i64 (v.1 - 1))) < length v.2.2.2.2.2.1) && decide ((getD v.2.2.2.2.2.1 (toNat (wrap .i64 (v.1 - 1))) 0) < length v.2.2.2.2.2.2)) <|
 .g (inR r32_.1 (length v.2.2.2.2.2.1)) <|
 .g (decide ((toNat r32_.1) < length v.2.2.2.2.2.1) && decide ((getD v.2.2.2.2.2.1 (toNat r32_.1) 0) < length v.2.2.2.2.2.2)) <|
 .c (Int) (k ((getD v.2.2.2.2.2.2 (getD v.2.2.2.2.2.1 (toNat (wrap .i64 (v.1 - 1))) 0) ([] : Y1)), ((getD v.2.2.2.2.2.2 (getD v.2.2.2.2.2.1 (toNat r32_.1) 0) ([] : Y1)), ()))) fun r33_ =>
 .t (!(decide (r33_ < 0)))
 (.f)
 (.c (Int × (Bool × ((List Nat) × Y2))) (wgx v.1 v.2.1 r32_.1 k v.2.2.2.2.2) fun r34_ =>
 .g (!decide ((8 : Int) = 0)) <|
 .t (decide ((wrap .i64 (r34_.1 - v.1)) < (wrap .i64 (v.2.1 - r34_.1))))
 (.c ((List Nat) × Y2) (rec_ v.1 r34_.1 v.2.2.1 k r34_.2.2) fun r35_ =>
 .l (.inl ((wrap .i64 (r34_.1 + 1)), (v.2.1, (v.2.2.1, ((decide ((wrap .i64 (Int.tdiv (wrap .i64 (v.2.1 - v.1)) (8 : Int))) ≤ (wrap .i64 (r34_.1 - v.1)))), (r34_.2.1, r35_)))))))
 (.c ((List Nat) × Y2) (rec_ (wrap .i64 (r34_.1 + 1)) v.2.1 v.2.2.1 k r34_.2.2) fun r36_ =>
 .l (.inl (v.1, (r34_.1, (v.2.2.1, ((decide ((wrap .i64 (Int.tdiv (wrap .i64 (v.2.1 - v.1)) (8 : Int))) ≤ (wrap .i64 (v.2.1 - r34_.1)))), (r34_.2.1, r36_)))))))))
 (.c (Int × (Bool × ((List Nat) × Y2))) (wgx v.1 v.2.1 r32_.1 k v.2.2.2.2.2) fun r37_ =>
 .g (!decide ((8 : Int) = 0)) <|
 .t (decide ((wrap .i64 (r37_.1 - v.1)) < (wrap .i64 (v.2.1 - r37_.1))))
 (.c ((List Nat) × Y2) (rec_ v.1 r37_.1 v.2.2.1 k r37_.2.2) fun r38_ =>
 .l (.inl ((wrap .i64 (r37_.1 + 1)), (v.2.1, (v.2.2.1, ((decide ((wrap .i64 (Int.tdiv (wrap .i64 (v.2.1 - v.1)) (8 : Int))) ≤ (wrap .i64 (r37_.1 - v.1)))), (r37_.2.1, r38_)))))))
 (.c ((List Nat) × Y2) (rec_ (wrap .i64 (r37_.1 + 1)) v.2.1 v.2.2.1 k r37_.2.2) fun r39_ =>
 .l (.inl (v.1, (r37_.1, (v.2.2.1, ((decide ((wrap .i64 (Int.tdiv (wrap .i64 (v.2.1 - v.1)) (8 : Int))) ≤ (wrap .i64 (v.2.1 - r37_.1)))), (r37_.2.1, r39_))))))))))
 (.t (decide (0 < v.1))
 (.g (inR (wrap .i64 (v.1 - 1)) (length v.2.2.2.2.2.1)) <|
 .g (decide ((toNat (wrap .i64 (v.1 - 1))) < length v.2.2.2.2.2.1) && decide ((getD v.2.2.2.2.2.1 (toNat (wrap .i64 (v.1 - 1))) 0) < length v.2.2.2.2.2.2)) <|
 .g (inR r32_.1 (length v.2.2.2.2.2.1)) <|
 .g (decide ((toNat r32_.1) < length v.2.2.2.2.2.1) && decide ((getD v.2.2.2.2.2.1 (toNat r32_.1) 0) < length v.2.2.2.2.2.2)) <|
 .c (Int) (k ((getD v.2.2.2.2.2.2 (getD v.2.2.2.2.2.1 (toNat (wrap .i64 (v.1 - 1))) 0) ([] : Y1)), ((getD v.2.2.2.2.2.2 (getD v.2.2.2.2.2.1 (toNat r32_.1) 0) ([] : Y1)), ()))) fun r40_ =>
 .t (!(decide (r40_ < 0)))
 (.f)
 (.c (Int × (Bool × ((List Nat) × Y2))) (wgx v.1 v.2.1 r32_.1 k v.2.2.2.2.2) fun r41_ =>
 .g (!decide ((8 : Int) = 0)) <|
 .t (decide ((wrap .i64 (r41_.1 - v.1)) < (wrap .i64 (v.2.1 - r41_.1))))
 (.c ((List Nat) × Y2) (rec_ v.1 r41_.1 v.2.2.1 k r41_.2.2) fun r42_ =>
 .l (.inl ((wrap .i64 (r41_.1 + 1)), (v.2.1, (v.2.2.1, ((decide ((wrap .i64 (Int.tdiv (wrap .i64 (v.2.1 - v.1)) (8 : Int))) ≤ (wrap .i64 (r41_.1 - v.1)))), (r41_.2.1, r42_)))))))
 (.c ((List Nat) × Y2) (rec_ (wrap .i64 (r41_.1 + 1)) v.2.1 v.2.2.1 k r41_.2.2) fun r43_ =>
 .l (.inl (v.1, (r41_.1, (v.2.2.1, ((decide ((wrap .i64 (Int.tdiv (wrap .i64 (v.2.1 - v.1)) (8 : Int))) ≤ (wrap .i64 (v.2.1 - r41_.1)))), (r41_.2.1, r43_)))))))))
 (.c (Int × (Bool × ((List Nat) × Y2))) (wgx v.1 v.2.1 r32_.1 k v.2.2.2.2.2) fun r44_ =>
 .g (!decide ((8 : Int) = 0)) <|
 .t (decide ((wrap .i64 (r44_.1 - v.1)) < (wrap .i64 (v.2.1 - r44_.1))))
 (.c ((List Nat) × Y2) (rec_ v.1 r44_.1 v.2.2.1 k r44_.2.2) fun r45_ =>
 .l (.inl ((wrap .i64 (r44_.1 + 1)), (v.2.1, (v.2.2.1, ((decide ((wrap .i64 (Int.tdiv (wrap .i64 (v.2.1 - v.1)) (8 : Int))) ≤ (wrap .i64 (r44_.1 - v.1)))), (r44_.2.1, r45_)))))))
 (.c ((List Nat) × Y2) (rec_ (wrap .i64 (r44_.1 + 1)) v.2.1 v.2.2.1 k r44_.2.2) fun r46_ =>
 .l (.inl (v.1, (r44_.1, (v.2.2.1, ((decide ((wrap .i64 (Int.tdiv (wrap .i64 (v.2.1 - v.1)) (8 : Int))) ≤ (wrap .i64 (v.2.1 - r44_.1)))), (r44_.2.1, r46_))))))))))
 (.t (decide (0 < v.1))
 (.g (inR (wrap .i64 (v.1 - 1)) (length v.2.2.2.2.2.1)) <|
 .g (decide ((toNat (wrap .i64 (v.1 - 1))) < length v.2.2.2.2.2.1) && decide ((getD v.2.2.2.2.2.1 (toNat (wrap .i64 (v.1 - 1))) 0) < length v.2.2.2.2.2.2)) <|
 .g (inR r32_.1 (length v.2.2.2.2.2.1)) <|
 .g (decide ((toNat r32_.1) < length v.2.2.2.2.2.1) && decide ((getD v.2.2.2.2.2.1 (toNat r32_.1) 0) < length v.2.2.2.2.2.2)) <|
 .c (Int) (k ((getD v.2.2.2.2.2.2 (getD v.2.2.2.2.2.1 (toNat (wrap .i64 (v.1 - 1))) 0) ([] : Y1)), ((getD v.2.2.2.2.2.2 (getD v.2.2.2.2.2.1 (toNat r32_.1) 0) ([] : Y1)), ()))) fun r47_ =>
 .t (!(decide (r47_ < 0)))
 (.f)
 (.c (Int × (Bool × ((List Nat) × Y2))) (wgx v.1 v.2.1 r32_.1 k v.2.2.2.2.2) fun r48_ =>
 .g (!decide ((8 : Int) = 0)) <|
 .t (decide ((wrap .i64 (r48_.1 - v.1)) < (wrap .i64 (v.2.1 - r48_.1))))
 (.c ((List Nat) × Y2) (rec_ v.1 r48_.1 v.2.2.1 k r48_.2.2) fun r49_ =>
 .l (.inl ((wrap .i64 (r48_.1 + 1)), (v.2.1, (v.2.2.1, ((decide ((wrap .i64 (Int.tdiv (wrap .i64 (v.2.1 - v.1)) (8 : Int))) ≤ (wrap .i64 (r48_.1 - v.1)))), (r48_.2.1, r49_)))))))
 (.c ((List Nat) × Y2) (rec_ (wrap .i64 (r48_.1 + 1)) v.2.1 v.2.2.1 k r48_.2.2) fun r50_ =>
 .l (.inl (v.1, (r48_.1, (v.2.2.1, ((decide ((wrap .i64 (Int.tdiv (wrap .i64 (v.2.1 - v.1)) (8 : Int))) ≤ (wrap .i64 (v.2.1 - r48_.1)))), (r48_.2.1, r50_)))))))))
 (.c (Int × (Bool × ((List Nat) × Y2))) (wgx v.1 v.2.1 r32_.1 k v.2.2.2.2.2) fun r51_ =>
 .g (!decide ((8 : Int) = 0)) <|
 .t (decide ((wrap .i64 (r51_.1 - v.1)) < (wrap .i64 (v.2.1 - r51_.1))))
 (.c ((List Nat) × Y2) (rec_ v.1 r51_.1 v.2.2.1 k r51_.2.2) fun r52_ =>
 .l (.inl ((wrap .i64 (r51_.1 + 1)), (v.2.1, (v.2.2.1, ((decide ((wrap .i64 (Int.tdiv (wrap .i64 (v.2.1 - v.1)) (8 : Int))) ≤ (wrap .i64 (r51_.1 - v.1)))), (r51_.2.1, r52_)))))))
 (.c ((List Nat) × Y2) (rec_ (wrap .i64 (r51_.1 + 1)) v.2.1 v.2.2.1 k r51_.2.2) fun r53_ =>
 .l (.inl (v.1, (r51_.1, (v.2.2.1, ((decide ((wrap .i64 (Int.tdiv (wrap .i64 (v.2.1 - v.1)) (8 : Int))) ≤ (wrap .i64 (v.2.1 - r51_.1)))), (r51_.2.1, r53_)))))))))))))
noncomputable def wym (rec_ : (Int) → (Int) → (Int) → ((HL [y1, y1] → Option (Int))) → ((List Nat) × Y2) → Option ((List Nat) × Y2)) (k : (HL [y1, y1] → Option (Int))) (v : Int × (Int × (Int × (Bool × (Bool × ((List Nat) × Y2)))))) : Option ((List Nat) × Y2) := iter (fun v => (wrf rec_ k v).ev) v
noncomputable def wabx (rec_ : (Int) → (Int) → (Int) → ((HL [y1, y1] → Option (Int))) → ((List Nat) × Y2) → Option ((List Nat) × Y2)) : LD where
 head := { acts := [], S := { slots := [0, 1, 2, 3, 4, 10, 11], sh := (yj [.arr 64, .dat yi, .dat yi, .dat yi, .clo [y1, y1] yi, .dat .bool, .dat .bool]), obs := [(64, .perm 24 3 yi)] } }
 exits := []
 rets := { acts := [], S := { slots := [0], sh := (yj [.arr 64]), obs := [(64, .perm 24 3 yi)] } }
 K := (HL [y1, y1] → Option (Int))
 V := Int × (Int × (Int × (Bool × (Bool × ((List Nat) × Y2)))))
 R := (List Nat) × Y2
 join := fun k v => (((), (v.1, (v.2.1, (v.2.2.1, (k, (v.2.2.2.1, (v.2.2.2.2.1, ()))))))), (v.2.2.2.2.2, ()))
 sk := fun t => t.1.2.2.2.2.1
 sv := fun t => (t.1.2.1, (t.1.2.2.1, (t.1.2.2.2.1, (t.1.2.2.2.2.2.1, (t.1.2.2.2.2.2.2.1, t.2.1)))))
 step := wrf rec_
 leaf := fun _ r => .l (.ret (wbd ({ slots := [0], sh := (yj [.arr 64]), obs := [(64, .perm 24 3 yi)] }) (((), ()), (r, ()))))
noncomputable def wash (rec_ : (Int) → (Int) → (Int) → ((HL [y1, y1] → Option (Int))) → ((List Nat) × Y2) → Option ((List Nat) × Y2)) (a2_ : Int) (a3_ : Int) (a4_ : Int) (a5_ : (HL [y1, y1] → Option (Int))) (a1_ : (List Nat) × Y2) : Tr ((List Nat) × Y2) :=
 .c ((List Nat) × Y2) (wym rec_ a5_ (a2_, (a3_, (a4_, (true, (true, a1_)))))) fun r55_ =>
 .l r55_
noncomputable def wrg : Nat → (Int) → (Int) → (Int) → ((HL [y1, y1] → Option (Int))) → ((List Nat) × Y2) → Option ((List Nat) × Y2)
 | 0 => fun _ _ _ _ _ => none
 | n + 1 => fun a2_ a3_ a4_ a5_ a1_ => (wash (wrg n) a2_ a3_ a4_ a5_ a1_).ev
noncomputable def wbyi : RetK := { acts := [], res := [], sh := .nil, obs := [(64, .perm 24 3 yi)], pins := [(0, 0, 64)] }
noncomputable def wawk (rec_ : (Int) → (Int) → (Int) → ((HL [y1, y1] → Option (Int))) → ((List Nat) × Y2) → Option ((List Nat) × Y2)) : FD where
 A := (yj [.arr 64, .dat yi, .dat yi, .dat yi, .clo [y1, y1] yi])
 ins := [(64, .perm 24 3 yi)]
 lend := [.arg 0]
 R := (List Nat) × Y2
 F := fun x => rec_ x.1.2.1 x.1.2.2.1 x.1.2.2.2.1 x.1.2.2.2.2.1 x.2.1
 emb := fun r => ([], [(64, .perm false 24 3 yi r.1 r.2)])
noncomputable def wbfm (n : Nat) : FD := wawk (wrg n)
noncomputable def wbfn (rec_ : (Int) → (Int) → (Int) → ((HL [y1, y1] → Option (Int))) → ((List Nat) × Y2) → Option ((List Nat) × Y2)) : Env := waa [(251, wbfb), (253, wbfe), (254, wbfk), (258, wbfl), (233, wawk rec_)]
noncomputable def wbfo (rec_ : (Int) → (Int) → (Int) → ((HL [y1, y1] → Option (Int))) → ((List Nat) × Y2) → Option ((List Nat) × Y2)) : List (Nat × LD) := [(0, wabx rec_)]
noncomputable def wbfp : Code := (f233.body).getD .skip
noncomputable def wasi (a2_ : (HL [y1, y1] → Option (Int))) (a1_ : (List Nat) × Y2) : Tr ((List Nat) × Y2) :=
 .c (Int) (wakj (wrap .u64 ((length a1_.1 : Nat) : Int))) fun r1_ =>
 .c ((List Nat) × Y2) (wrg 1000000 (0 : Int) ((length a1_.1 : Nat) : Int) r1_ a2_ a1_) fun r2_ =>
 .l r2_
noncomputable def wasj (a2_ : (HL [y1, y1] → Option (Int))) (a1_ : (List Nat) × Y2) : Option ((List Nat) × Y2) := (wasi a2_ a1_).ev
noncomputable def wbyj : RetK := { acts := [], res := [], sh := .nil, obs := [(64, .perm 24 3 yi)], pins := [(0, 0, 64)] }
noncomputable def wask : FD := yd (yj [.arr 64, .clo [y1, y1] yi]) [(64, .perm 24 3 yi)] [.arg 0] ((List Nat) × Y2) (fun x => wasj x.1.2.1 x.2.1) (fun r => ([], [(64, .perm false 24 3 yi r.1 r.2)]))
noncomputable def T_zc (a1_ : Int) : Tr (Bool) :=
 .l (a1_ != a1_)
noncomputable def F_zc (a1_ : Int) : Option (Bool) := (T_zc a1_).ev
noncomputable def K_zc : RetK := yr [.tmp 2] (yj [.dat .bool])
noncomputable def D_zc : FD := yd (yj [.dat yi]) [] [] Bool (fun x => F_zc x.1.1) (fun r => ([.dat .bool r], []))
noncomputable def T_za (a1_ : Int) (a2_ : Int) : Tr (Int) :=
 .c (Bool) (F_zc a1_) fun r1_ =>
 .c (Bool) (F_zc a2_) fun r2_ =>
 .t r1_
 (.t r2_
 (.l (0 : Int))
 (.l (-1 : Int)))
 (.t r2_
 (.l (1 : Int))
 (.t (decide (a1_ < a2_))
 (.l (-1 : Int))
 (.t (decide (a2_ < a1_))
 (.l (1 : Int))
 (.l (0 : Int)))))
noncomputable def F_za (a1_ : Int) (a2_ : Int) : Option (Int) := (T_za a1_ a2_).ev
noncomputable def K_za : RetK := yr [.tmp 4] (yj [.dat yi])
noncomputable def D_za : FD := yd (yj [.dat yi, .dat yi]) [] [] Int (fun x => F_za x.1.1 x.1.2.1) (fun r => ([.dat yi r], []))
noncomputable def wrh (k : Y1 × (Y1 × (Y1 × Int))) (v : Int) : Tr ((Int) ⊕ ((Unit) ⊕ (Int))) :=
 .t (decide (v < k.2.2.2))
 (.g (inR v (length k.2.2.1)) <|
 .t (decide (((length k.2.1 : Nat) : Int) ≤ v))
 (.l (.inr (.inr (1 : Int))))
 (.g (inR v (length k.2.1)) <|
 .c (Int) (F_za (getD k.2.2.1 (toNat v) 0) (getD k.2.1 (toNat v) 0)) fun r6_ =>
 .t (r6_ != (0 : Int))
 (.l (.inr (.inr r6_)))
 (.l (.inl (wrap .i64 (v + 1))))))
 (.l (.inr (.inl ())))
noncomputable def wyn (k : Y1 × (Y1 × (Y1 × Int))) (v : Int) : Option ((Unit) ⊕ (Int)) := iter (fun v => (wrh k v).ev) v
noncomputable def waby : LD := ⟨(yh [0, 1, 9, 10, 11] (yj [.dat y1, .dat y1, .dat y1, .dat yi, .dat yi])), [(0, (yh [0, 1] (yj [.dat y1, .dat y1])))], (yh [4] (yj [.dat yi])), Y1 × (Y1 × (Y1 × Int)), Int, (Unit) ⊕ (Int), fun k v => ((k.1, (k.2.1, (k.2.2.1, (k.2.2.2, (v, ()))))), ()), fun t => (t.1.1, (t.1.2.1, (t.1.2.2.1, t.1.2.2.2.1))), fun t => t.1.2.2.2.2.1, wrh, fun k r => .s (Unit) (Int) r (fun _ => .l (.exit 0 (wbd ((ys [0, 1] (yj [.dat y1, .dat y1]))) ((k.1, (k.2.1, ())), ())))) (fun b => .l (.ret (wbd ((ys [4] (yj [.dat yi]))) ((b, ()), ()))))⟩
noncomputable def wasl (a1_ : Y1) (a2_ : Y1) : Tr (Int) :=
 .c ((Unit) ⊕ (Int)) (wyn (a1_, (a2_, (a1_, ((length a1_ : Nat) : Int)))) (0 : Int)) fun r10_ =>
 .s (Unit) (Int) r10_
 (fun _ => .t (decide (((length a1_ : Nat) : Int) < ((length a2_ : Nat) : Int)))
 (.l (-1 : Int))
 (.l (0 : Int)))
 (fun r12_ => .l r12_)
noncomputable def wasm (a1_ : Y1) (a2_ : Y1) : Option (Int) := (wasl a1_ a2_).ev
noncomputable def wbyl : RetK := yr [.tmp 4] (yj [.dat yi])
noncomputable def wbfq : FD := yd (yj [.dat y1, .dat y1]) [] [] Int (fun x => wasm x.1.1 x.1.2.1) (fun r => ([.dat yi r], []))
noncomputable def wbfr : Env := waa [(182, D_za)]
noncomputable def wbfs : List (Nat × LD) := [(0, waby)]
noncomputable def wbft : Code := (f235.body).getD .skip
noncomputable def wabz (k : Int × (Y1 × Int)) (v : Int) : Tr ((Int) ⊕ ((Unit) ⊕ (Int))) :=
 .t (decide (v < k.2.2))
 (.g (inR v (length k.2.1)) <|
 .t ((getD k.2.1 (toNat v) 0) != k.1)
 (.l (.inr (.inr (getD k.2.1 (toNat v) 0))))
 (.l (.inl (wrap .i64 (v + 1)))))
 (.l (.inr (.inl ())))
noncomputable def wakl (k : Int × (Y1 × Int)) (v : Int) : Option ((Unit) ⊕ (Int)) := iter (fun v => (wabz k v).ev) v
noncomputable def wakm : LD := ⟨(yh [3, 6, 7, 8] (yj [.dat yi, .dat y1, .dat yi, .dat yi])), [(0, (yh [3] (yj [.dat yi])))], (yh [2] (yj [.dat yi])), Int × (Y1 × Int), Int, (Unit) ⊕ (Int), fun k v => ((k.1, (k.2.1, (k.2.2, (v, ())))), ()), fun t => (t.1.1, (t.1.2.1, t.1.2.2.1)), fun t => t.1.2.2.2.1, wabz, fun k r => .s (Unit) (Int) r (fun _ => .l (.exit 0 (wbd ((ys [3] (yj [.dat yi]))) ((k.1, ()), ())))) (fun b => .l (.ret (wbd ((ys [2] (yj [.dat yi]))) ((b, ()), ()))))⟩
noncomputable def T_zb (a1_ : Y1) : Tr (Int) :=
 .c ((Unit) ⊕ (Int)) (wakl ((0 : Int), (a1_, ((length a1_ : Nat) : Int))) (0 : Int)) fun r7_ =>
 .s (Unit) (Int) r7_
 (fun _ => .l (0 : Int))
 (fun r9_ => .l r9_)
noncomputable def F_zb (a1_ : Y1) : Option (Int) := (T_zb a1_).ev
noncomputable def K_zb : RetK := yr [.tmp 2] (yj [.dat yi])
noncomputable def D_zb : FD := yd (yj [.dat y1]) [] [] Int (fun x => F_zb x.1.1) (fun r => ([.dat yi r], []))
noncomputable def E_zb : Env := waa []
noncomputable def O_zb : List (Nat × LD) := [(0, wakm)]
noncomputable def C_zb : Code := (f181.body).getD .skip
noncomputable def wasn (a1_ : Y1) (a2_ : Y1) : Tr (Int) :=
 .c (Int) (F_za ((length a1_ : Nat) : Int) ((length a2_ : Nat) : Int)) fun r1_ =>
 .c (Int) (wasm a1_ a2_) fun r2_ =>
 .c (Int) (F_zb ([r1_, r2_] : Y1)) fun r3_ =>
 .l r3_
noncomputable def waso (a1_ : Y1) (a2_ : Y1) : Option (Int) := (wasn a1_ a2_).ev
noncomputable def wbyq : RetK := yr [.tmp 4] (yj [.dat yi])
noncomputable def wbfu : FD := yd (yj [.dat y1, .dat y1]) [] [] Int (fun x => waso x.1.1 x.1.2.1) (fun r => ([.dat yi r], []))
noncomputable def wri (k : Int) (v : Int × Y2) : Tr ((Int × Y2) ⊕ Y2) :=
 .g (decide (0 ≤ k)) <|
 .t (decide (v.1 < (wrap .u64 ((1 : Int) * 2 ^ (min (toNat k) (IntKind.bits .u64))))))
 (.c Y1 (wkt v.1) fun r4_ =>
 .g (decide ((length v.2 + 1) * 24 ≤ 140737488355328)) <|
 .l (.inl ((wrap .u64 (v.1 + 1)), (set (v.2 ++ [[]]) (length v.2) r4_))))
 (.l (.inr v.2))
noncomputable def wyo (k : Int) (v : Int × Y2) : Option Y2 := iter (fun v => (wri k v).ev) v
noncomputable def waca : LD := ⟨{ acts := [], S := { slots := [0, 3, 4], sh := (yj [.dat yi, .arr 5, .dat (.int .u64)]), obs := [(5, .rows 24 3 yi)] } }, [(0, { acts := [], S := { slots := [3], sh := (yj [.arr 5]), obs := [(5, .rows 24 3 yi)] } })], (yh [] .nil), Int, Int × Y2, List Y1, fun k v => ((k, ((), (v.1, ()))), (v.2, ())), fun t => t.1.1, fun t => (t.1.2.2.1, t.2.1), wri, fun _ r => .l (.exit 0 (wbd ({ slots := [3], sh := (yj [.arr 5]), obs := [(5, .rows 24 3 yi)] }) (((), ()), (r, ()))))⟩
noncomputable def wasp (a1_ : Int) : Tr ((List Nat) × Y2) :=
 .c Y2 (wyo a1_ ((1 : Int), ([] : List Y1))) fun r6_ =>
 .c ((List Nat) × Y2) (wasj (fun h7_ => Option.bind (waso h7_.1 h7_.2.1) fun y8_ => some y8_) ((List.range (length r6_)), r6_)) fun r9_ =>
 .l r9_
noncomputable def waeu (a1_ : Int) : Option ((List Nat) × Y2) := (wasp a1_).ev
noncomputable def wbyr : RetK := { acts := [.ren 5 0], res := [.tmp 2], sh := (yj [.arr 0]), obs := [(0, .perm 24 3 yi)], pins := [] }
noncomputable def wbfv : FD := yd (yj [.dat yi]) [] [] ((List Nat) × Y2) (fun x => waeu x.1.1) (fun r => ([.arr 0], [(0, .perm false 24 3 yi r.1 r.2)]))
noncomputable def wbfw : Nat → Nat → List Nat := fun r i => match look [(1, [(0, [1000000])]), (6, [(1, [80000017])])] r with
 | some l => (look l i).getD []
 | none => []
noncomputable def wbfx : Env := waa [(144, waeq), (184, wask), (184, wask), (185, wbfu)]
noncomputable def wbfy : List (Nat × LD) := [(0, waca)]
noncomputable def wbfz : Code := (f91.body).getD .skip
noncomputable def wjr (k : ((HL [y1] → Option (Int))) × (Int × ((List Nat) × Y2))) (v : (Nat) × Int) : Tr (((Nat) × Int) ⊕ (Nat)) :=
 .t (decide (v.2 < k.2.1))
 (.g (inR v.2 (length k.2.2.1)) <|
 .g (decide ((toNat v.2) < length k.2.2.1) && decide ((getD k.2.2.1 (toNat v.2) 0) < length k.2.2.2)) <|
 .c (Int) (k.1 ((getD k.2.2.2 (getD k.2.2.1 (toNat v.2) 0) ([] : Y1)), ())) fun r6_ =>
 .c (Int) (k.1 ((getD k.2.2.2 v.1 ([] : Y1)), ())) fun r7_ =>
 .t (decide (r6_ < r7_))
 (.l (.inl ((getD k.2.2.1 (toNat v.2) 0), (wrap .i64 (v.2 + 1)))))
 (.l (.inl (v.1, (wrap .i64 (v.2 + 1))))))
 (.l (.inr v.1))
noncomputable def wakn (k : ((HL [y1] → Option (Int))) × (Int × ((List Nat) × Y2))) (v : (Nat) × Int) : Option (Nat) := iter (fun v => (wjr k v).ev) v
noncomputable def wacb : LD := ⟨{ acts := [], S := { slots := [0, 1, 5, 11, 12, 13], sh := (yj [.arr 64, .clo [y1] yi, .row 64, .arr 64, .dat yi, .dat yi]), obs := [(64, .perm 24 3 yi)] } }, [(0, { acts := [], S := { slots := [0, 5], sh := (yj [.arr 64, .row 64]), obs := [(64, .perm 24 3 yi)] } })], (yh [] .nil), ((HL [y1] → Option (Int))) × (Int × ((List Nat) × Y2)), (Nat) × (Int), Nat, fun k v => (((), (k.1, (v.1, ((), (k.2.1, (v.2, ())))))), (k.2.2, ())), fun t => (t.1.2.1, (t.1.2.2.2.2.1, t.2.1)), fun t => (t.1.2.2.1, t.1.2.2.2.2.2.1), wjr, fun k r => .l (.exit 0 (wbd ({ slots := [0, 5], sh := (yj [.arr 64, .row 64]), obs := [(64, .perm 24 3 yi)] }) (((), (r, ())), (k.2.2, ()))))⟩
noncomputable def wbga (a2_ : (HL [y1] → Option (Int))) (a1_ : (List Nat) × Y2) : Tr Y1 :=
 .g (inR 0 (length a1_.1)) <|
 .g (decide ((toNat 0) < length a1_.1) && decide ((getD a1_.1 (toNat 0) 0) < length a1_.2)) <|
 .c (Nat) (wakn (a2_, (((length a1_.1 : Nat) : Int), a1_)) ((getD a1_.1 (toNat 0) 0), (0 : Int))) fun r10_ =>
 .l (getD a1_.2 r10_ ([] : Y1))
noncomputable def wasq (a2_ : (HL [y1] → Option (Int))) (a1_ : (List Nat) × Y2) : Option Y1 := (wbga a2_ a1_).ev
noncomputable def wbys : RetK := { acts := [.pull 4 800000, .ren 800000 0], res := [.tmp 4], sh := (yj [.arr 0]), obs := [(0, .arr 3 yi)], pins := [], gone := [64] }
noncomputable def wasr : FD := yd (yj [.arr 64, .clo [y1] yi]) [(64, .perm 24 3 yi)] [.arg 0] Y1 (fun x => wasq x.1.2.1 x.2.1) (fun r => ([.arr 0], [(0, .arr 3 yi r), (64, .spent)]))
noncomputable def wbgb : Env := waa []
noncomputable def wbgc : List (Nat × LD) := [(0, wacb)]
noncomputable def wbgd : Code := (f94.body).getD .skip
noncomputable def T_ze (a1_ : Y1) (a2_ : List Y1) : Tr (Bool × Y1) :=
 .c (Bool) (F_zt a1_ a2_) fun r1_ =>
 .t (!r1_)
 (.l (false, ([] : Y1)))
 (.c ((List Nat) × Y2) (waeu ((length a1_ : Nat) : Int)) fun r2_ =>
 .c Y1 (wasq (fun h3_ => Option.bind (F_zr a1_ a2_ h3_.1) fun y4_ => some y4_) r2_) fun r5_ =>
 .l (true, r5_))
noncomputable def F_ze (a1_ : Y1) (a2_ : List Y1) : Option (Bool × Y1) := (T_ze a1_ a2_).ev
noncomputable def K_ze : RetK := { acts := [.own 2 0 3 yi, .ren 832 0], res := [.tmp 2, .tmp 3], sh := (yj [.arr 0, .dat .bool]), obs := [(0, .arr 3 yi)], pins := [] }
noncomputable def D_ze : FD := yd (yj [.agg (yj [.dat y1, .dat y2])]) [] [] (Bool × Y1) (fun x => F_ze x.1.1.1 x.1.1.2.1) (fun r => ([.arr 0, .dat .bool r.1], [(0, .arr 3 yi r.2)]))
noncomputable def S_zg (k : Bool × (Y1 × (Int × (Int × (Int × (Y1 × (Y1 × (Y1 × Y1)))))))) (v : Int × Y2) : Tr ((Int × Y2) ⊕ Y2) :=
 .t (decide (v.1 < k.2.2.1))
 (.g (inR v.1 (length k.2.1)) <|
 .g (inR v.1 (length v.2)) <|
 .g (decide ((toNat v.1) < length v.2)) <|
 .g (decide ((length (getD v.2 (toNat v.1) ([] : Y1)) + length ([(getD k.2.1 (toNat v.1) 0)] : Y1)) * 8 ≤ 140737488355328)) <|
 .g (inR v.1 (length v.2)) <|
 .g (decide ((toNat v.1) < length v.2) && decide ((toNat v.1) = (toNat v.1))) <|
 .l (.inl ((wrap .i64 (v.1 + 1)), (set v.2 (toNat v.1) ((getD v.2 (toNat v.1) ([] : Y1)) ++ ([(getD k.2.1 (toNat v.1) 0)] : Y1))))))
 (.l (.inr v.2))
noncomputable def L_zg (k : Bool × (Y1 × (Int × (Int × (Int × (Y1 × (Y1 × (Y1 × Y1)))))))) (v : Int × Y2) : Option Y2 := iter (fun v => (S_zg k v).ev) v
noncomputable def wbmi : LD := ⟨{ acts := [.ownB 4 0 901340 3 yi, .ownB 4 2 901342 3 yi], S := { slots := [4, 6, 9, 165, 166, 167], sh := (yj [.box 4 0, .box 6 0, .dat .bool, .dat y1, .dat yi, .dat yi]), obs := [(4, .cells (yj [.arr 901340, .nilsl, .arr 901342, .dat yi])), (6, .cells (yj [.arr 1859, .arr 1860, .arr 1861, .dat yi])), (901340, .arr 3 yi), (901342, .arr 3 yi), (1859, .arr 3 yi), (1860, .rows 24 3 yi), (1861, .arr 3 yi)] } }, [(1, { acts := [], S := { slots := [4, 6, 9], sh := (yj [.box 4 0, .box 6 0, .dat .bool]), obs := [(4, .cells (yj [.arr 901340, .nilsl, .arr 901342, .dat yi])), (6, .cells (yj [.arr 1859, .arr 1860, .arr 1861, .dat yi])), (901340, .arr 3 yi), (901342, .arr 3 yi), (1859, .arr 3 yi), (1860, .rows 24 3 yi), (1861, .arr 3 yi)] } })], (yh [] .nil), Bool × (Y1 × (Int × (Int × (Int × (Y1 × (Y1 × (Y1 × Y1))))))), Int × Y2, List Y1, fun k v => (((), ((), (k.1, (k.2.1, (k.2.2.1, (v.1, ())))))), (((), ((), ((), (k.2.2.2.1, ())))), (((), ((), ((), (k.2.2.2.2.1, ())))), (k.2.2.2.2.2.1, (k.2.2.2.2.2.2.1, (k.2.2.2.2.2.2.2.1, (v.2, (k.2.2.2.2.2.2.2.2, ())))))))), fun t => (t.1.2.2.1, (t.1.2.2.2.1, (t.1.2.2.2.2.1, (t.2.1.2.2.2.1, (t.2.2.1.2.2.2.1, (t.2.2.2.1, (t.2.2.2.2.1, (t.2.2.2.2.2.1, t.2.2.2.2.2.2.2.1)))))))), fun t => (t.1.2.2.2.2.2.1, t.2.2.2.2.2.2.1), S_zg, fun k r => .l (.exit 1 (wbd ({ slots := [4, 6, 9], sh := (yj [.box 4 0, .box 6 0, .dat .bool]), obs := [(4, .cells (yj [.arr 901340, .nilsl, .arr 901342, .dat yi])), (6, .cells (yj [.arr 1859, .arr 1860, .arr 1861, .dat yi])), (901340, .arr 3 yi), (901342, .arr 3 yi), (1859, .arr 3 yi), (1860, .rows 24 3 yi), (1861, .arr 3 yi)] }) (((), ((), (k.1, ()))), (((), ((), ((), (k.2.2.2.1, ())))), (((), ((), ((), (k.2.2.2.2.1, ())))), (k.2.2.2.2.2.1, (k.2.2.2.2.2.2.1, (k.2.2.2.2.2.2.2.1, (r, (k.2.2.2.2.2.2.2.2, ()))))))))))⟩
noncomputable def wvf (k : Int × (Bool × (Int × (Int × (Int × (Y1 × Y1)))))) (v : Int × Y2) : Tr ((Int × Y2) ⊕ Y2) :=
 .t (decide (v.1 < k.2.2.1))
 (.g (inR v.1 (length v.2)) <|
 .g (decide ((toNat v.1) < length v.2)) <|
 .c (List Int) (warj k.1 (wrap .i64 (k.1 + 1)) (getD v.2 (toNat v.1) ([] : Y1))) fun r65_ =>
 .g (inR v.1 (length v.2)) <|
 .g (decide ((toNat v.1) < length v.2) && decide ((toNat v.1) = (toNat v.1))) <|
 .l (.inl ((wrap .i64 (v.1 + 1)), (set v.2 (toNat v.1) r65_))))
 (.l (.inr v.2))
noncomputable def wawl (k : Int × (Bool × (Int × (Int × (Int × (Y1 × Y1)))))) (v : Int × Y2) : Option Y2 := iter (fun v => (wvf k v).ev) v
noncomputable def wako : LD := ⟨{ acts := [], S := { slots := [4, 6, 7, 9, 222, 223, 224], sh := (yj [.box 4 0, .box 6 0, .dat yi, .dat .bool, .arr 1860, .dat yi, .dat yi]), obs := [(4, .cells (yj [.nilsl, .nilsl, .nilsl, .dat yi])), (6, .cells (yj [.arr 13888, .arr 1860, .arr 1861, .dat yi])), (1860, .rows 24 3 yi), (13888, .arr 3 yi), (1861, .arr 3 yi)] } }, [(3, { acts := [], S := { slots := [4, 6, 7, 9], sh := (yj [.box 4 0, .box 6 0, .dat yi, .dat .bool]), obs := [(4, .cells (yj [.nilsl, .nilsl, .nilsl, .dat yi])), (6, .cells (yj [.arr 13888, .arr 1860, .arr 1861, .dat yi])), (13888, .arr 3 yi), (1860, .rows 24 3 yi), (1861, .arr 3 yi)] } })], (yh [] .nil), Int × (Bool × (Int × (Int × (Int × (Y1 × Y1))))), Int × Y2, List Y1, fun k v => (((), ((), (k.1, (k.2.1, ((), (k.2.2.1, (v.1, ()))))))), (((), ((), ((), (k.2.2.2.1, ())))), (((), ((), ((), (k.2.2.2.2.1, ())))), (v.2, (k.2.2.2.2.2.1, (k.2.2.2.2.2.2, ())))))), fun t => (t.1.2.2.1, (t.1.2.2.2.1, (t.1.2.2.2.2.2.1, (t.2.1.2.2.2.1, (t.2.2.1.2.2.2.1, (t.2.2.2.2.1, t.2.2.2.2.2.1)))))), fun t => (t.1.2.2.2.2.2.2.1, t.2.2.2.1), wvf, fun k r => .l (.exit 3 (wbd ({ slots := [4, 6, 7, 9], sh := (yj [.box 4 0, .box 6 0, .dat yi, .dat .bool]), obs := [(4, .cells (yj [.nilsl, .nilsl, .nilsl, .dat yi])), (6, .cells (yj [.arr 13888, .arr 1860, .arr 1861, .dat yi])), (13888, .arr 3 yi), (1860, .rows 24 3 yi), (1861, .arr 3 yi)] }) (((), ((), (k.1, (k.2.1, ())))), (((), ((), ((), (k.2.2.2.1, ())))), (((), ((), ((), (k.2.2.2.2.1, ())))), (k.2.2.2.2.2.1, (r, (k.2.2.2.2.2.2, ()))))))))⟩
noncomputable def wpd (k : Int × (Bool × (Int × (Int × (Int × (Y1 × Y2)))))) (v : Int × Y1) : Tr ((Int × Y1) ⊕ Y1) :=
 .t (decide (v.1 < k.2.2.1))
 (.g (inR v.1 (length v.2)) <|
 .g (decide ((toNat v.1) < length v.2)) <|
 .t (decide (k.1 < (getD v.2 (toNat v.1) 0)))
 (.g (inR v.1 (length v.2)) <|
 .g (decide ((toNat v.1) < length v.2)) <|
 .g (inR v.1 (length v.2)) <|
 .g (decide ((toNat v.1) < length v.2)) <|
 .l (.inl ((wrap .i64 (v.1 + 1)), (set v.2 (toNat v.1) (wrap .i64 ((getD v.2 (toNat v.1) 0) - 1))))))
 (.l (.inl ((wrap .i64 (v.1 + 1)), v.2))))
 (.l (.inr v.2))
noncomputable def wawm (k : Int × (Bool × (Int × (Int × (Int × (Y1 × Y2)))))) (v : Int × Y1) : Option Y1 := iter (fun v => (wpd k v).ev) v
noncomputable def wakp : LD := ⟨{ acts := [], S := { slots := [4, 6, 7, 9, 241, 242, 243], sh := (yj [.box 4 0, .box 6 0, .dat yi, .dat .bool, .arr 1861, .dat yi, .dat yi]), obs := [(4, .cells (yj [.nilsl, .nilsl, .nilsl, .dat yi])), (6, .cells (yj [.arr 13888, .arr 1860, .arr 1861, .dat yi])), (1861, .arr 3 yi), (13888, .arr 3 yi), (1860, .rows 24 3 yi)] } }, [(5, { acts := [], S := { slots := [4, 6, 9], sh := (yj [.box 4 0, .box 6 0, .dat .bool]), obs := [(4, .cells (yj [.nilsl, .nilsl, .nilsl, .dat yi])), (6, .cells (yj [.arr 13888, .arr 1860, .arr 1861, .dat yi])), (13888, .arr 3 yi), (1860, .rows 24 3 yi), (1861, .arr 3 yi)] } })], (yh [] .nil), Int × (Bool × (Int × (Int × (Int × (Y1 × Y2))))), Int × Y1, Y1, fun k v => (((), ((), (k.1, (k.2.1, ((), (k.2.2.1, (v.1, ()))))))), (((), ((), ((), (k.2.2.2.1, ())))), (((), ((), ((), (k.2.2.2.2.1, ())))), (v.2, (k.2.2.2.2.2.1, (k.2.2.2.2.2.2, ())))))), fun t => (t.1.2.2.1, (t.1.2.2.2.1, (t.1.2.2.2.2.2.1, (t.2.1.2.2.2.1, (t.2.2.1.2.2.2.1, (t.2.2.2.2.1, t.2.2.2.2.2.1)))))), fun t => (t.1.2.2.2.2.2.2.1, t.2.2.2.1), wpd, fun k r => .l (.exit 5 (wbd ({ slots := [4, 6, 9], sh := (yj [.box 4 0, .box 6 0, .dat .bool]), obs := [(4, .cells (yj [.nilsl, .nilsl, .nilsl, .dat yi])), (6, .cells (yj [.arr 13888, .arr 1860, .arr 1861, .dat yi])), (13888, .arr 3 yi), (1860, .rows 24 3 yi), (1861, .arr 3 yi)] }) (((), ((), (k.2.1, ()))), (((), ((), ((), (k.2.2.2.1, ())))), (((), ((), ((), (k.2.2.2.2.1, ())))), (k.2.2.2.2.2.1, (k.2.2.2.2.2.2, (r, ()))))))))⟩
noncomputable def T_zf (a1_ : Y1) (a2_ : List Y1) (a3_ : Y1) (a4_ : Int) (a5_ : Int) (a6_ : Int) (a7_ : Int) (a8_ : Int) (a9_ : Y1) : Tr (Int × (Bool × (Y1 × (Y2 × Y1)))) :=
 .c (Bool) (wks a1_ a2_ a3_ a4_) fun r1_ =>
 .t (!r1_)
 (.l ((0 : Int), (false, (([] : Y1), (([] : List Y1), ([] : Y1))))))
 (.c (Bool) (F_zh a5_ a6_ a7_ a8_ a9_) fun r2_ =>
 .t (!r2_)
 (.l ((0 : Int), (false, (([] : Y1), (([] : List Y1), ([] : Y1))))))
 (.c (Int × (Y1 × (Y2 × Y1))) (F_zd a1_ a2_ a3_ a4_) fun r3_ =>
 .c (Int) (F_zy a3_) fun r4_ =>
 .c (Bool) (woj a6_ (0 : Int) (wrap .i64 (((length a2_ : Nat) : Int) - 1))) fun r5_ =>
 .t (a5_ == 1)
 (.c (Bool) (F_zg a6_ a1_ a2_ a3_ a4_) fun r6_ =>
 .t r6_
 (.c (Bool) (F_zz r4_ a6_) fun r7_ =>
 .t (!r7_)
 (.g (decide (0 ≤ a6_)) <|
 .c Y1 (wkt (wrap .u64 (BitVec.toNat ((BitVec.ofInt (IntKind.bits .u64) r4_) ||| (BitVec.ofInt (IntKind.bits .u64) (wrap .u64 ((1 : Int) * 2 ^ (min (toNat a6_) (IntKind.bits .u64))))))))) fun r8_ =>
 .t (!(!r7_))
 (.l ((0 : Int), (false, (([] : Y1), (([] : List Y1), ([] : Y1))))))
 (.c (Bool) (wks r3_.2.1 r3_.2.2.1 r8_ (wrap .i64 (r3_.1 + 1))) fun r9_ =>
 .t (!r9_)
 (.l ((0 : Int), (false, (([] : Y1), (([] : List Y1), ([] : Y1))))))
 (.l ((wrap .i64 (r3_.1 + 1)), (true, (r3_.2.1, (r3_.2.2.1, r8_)))))))
 (.t (!(!r7_))
 (.l ((0 : Int), (false, (([] : Y1), (([] : List Y1), ([] : Y1))))))
 (.c (Bool) (wks r3_.2.1 r3_.2.2.1 r3_.2.2.2 (wrap .i64 (r3_.1 + 1))) fun r10_ =>
 .t (!r10_)
 (.l ((0 : Int), (false, (([] : Y1), (([] : List Y1), ([] : Y1))))))
 (.l ((wrap .i64 (r3_.1 + 1)), (true, (r3_.2.1, (r3_.2.2.1, r3_.2.2.2))))))))
 (.l ((0 : Int), (false, (([] : Y1), (([] : List Y1), ([] : Y1)))))))
 (.t (a5_ == 2)
 (.c (Bool) (F_zg a6_ a1_ a2_ a3_ a4_) fun r11_ =>
 .t r11_
 (.c (Bool) (F_zz r4_ a6_) fun r12_ =>
 .t r12_
 (.g (decide (0 ≤ a6_)) <|
 .c Y1 (wkt (wrap .u64 (BitVec.toNat ((BitVec.ofInt (IntKind.bits .u64) r4_) &&& ~~~(BitVec.ofInt (IntKind.bits .u64) (wrap .u64 ((1 : Int) * 2 ^ (min (toNat a6_) (IntKind.bits .u64))))))))) fun r13_ =>
 .t (!r12_)
 (.l ((0 : Int), (false, (([] : Y1), (([] : List Y1), ([] : Y1))))))
 (.c (Bool) (wks r3_.2.1 r3_.2.2.1 r13_ (wrap .i64 (r3_.1 + 1))) fun r14_ =>
 .t (!r14_)
 (.l ((0 : Int), (false, (([] : Y1), (([] : List Y1), ([] : Y1))))))
 (.l ((wrap .i64 (r3_.1 + 1)), (true, (r3_.2.1, (r3_.2.2.1, r13_)))))))
 (.t (!r12_)
 (.l ((0 : Int), (false, (([] : Y1), (([] : List Y1), ([] : Y1))))))
 (.c (Bool) (wks r3_.2.1 r3_.2.2.1 r3_.2.2.2 (wrap .i64 (r3_.1 + 1))) fun r15_ =>
 .t (!r15_)
 (.l ((0 : Int), (false, (([] : Y1), (([] : List Y1), ([] : Y1))))))
 (.l ((wrap .i64 (r3_.1 + 1)), (true, (r3_.2.1, (r3_.2.2.1, r3_.2.2.2))))))))
 (.l ((0 : Int), (false, (([] : Y1), (([] : List Y1), ([] : Y1)))))))
 (.t (a5_ == 3)
 (.c (Bool) (F_zg a6_ a1_ a2_ a3_ a4_) fun r16_ =>
 .t r16_
 (.c (Bool) (F_zg a7_ a1_ a2_ a3_ a4_) fun r17_ =>
 .t r17_
 (.c (Bool) (F_zz r4_ a6_) fun r18_ =>
 .t r18_
 (.c (Bool) (F_zz r4_ a7_) fun r19_ =>
 .t (!r19_)
 (.c Y1 (wajw a3_ a6_ a7_) fun r20_ =>
 .t (!(!r19_))
 (.l ((0 : Int), (false, (([] : Y1), (([] : List Y1), ([] : Y1))))))
 (.c (Bool) (wks r3_.2.1 r3_.2.2.1 r20_ (wrap .i64 (r3_.1 + 1))) fun r21_ =>
 .t (!r21_)
 (.l ((0 : Int), (false, (([] : Y1), (([] : List Y1), ([] : Y1))))))
 (.l ((wrap .i64 (r3_.1 + 1)), (true, (r3_.2.1, (r3_.2.2.1, r20_)))))))
 (.t (!(!r19_))
 (.l ((0 : Int), (false, (([] : Y1), (([] : List Y1), ([] : Y1))))))
 (.c (Bool) (wks r3_.2.1 r3_.2.2.1 r3_.2.2.2 (wrap .i64 (r3_.1 + 1))) fun r22_ =>
 .t (!r22_)
 (.l ((0 : Int), (false, (([] : Y1), (([] : List Y1), ([] : Y1))))))
 (.l ((wrap .i64 (r3_.1 + 1)), (true, (r3_.2.1, (r3_.2.2.1, r3_.2.2.2))))))))
 (.l ((0 : Int), (false, (([] : Y1), (([] : List Y1), ([] : Y1)))))))
 (.l ((0 : Int), (false, (([] : Y1), (([] : List Y1), ([] : Y1)))))))
 (.l ((0 : Int), (false, (([] : Y1), (([] : List Y1), ([] : Y1)))))))
 (.t (a5_ == 4)
 (.c (Bool) (F_zg a6_ a1_ a2_ a3_ a4_) fun r23_ =>
 .t r23_
 (.g (inR a6_ (length r3_.2.1)) <|
 .g (decide ((toNat a6_) < length r3_.2.1)) <|
 .t (!r23_)
 (.l ((0 : Int), (false, (([] : Y1), (([] : List Y1), ([] : Y1))))))
 (.c (Bool) (wks (set r3_.2.1 (toNat a6_) a7_) r3_.2.2.1 r3_.2.2.2 (wrap .i64 (r3_.1 + 1))) fun r24_ =>
 .t (!r24_)
 (.l ((0 : Int), (false, (([] : Y1), (([] : List Y1), ([] : Y1))))))
 (.l ((wrap .i64 (r3_.1 + 1)), (true, ((set r3_.2.1 (toNat a6_) a7_), (r3_.2.2.1, r3_.2.2.2)))))))
 (.t (!r23_)
 (.l ((0 : Int), (false, (([] : Y1), (([] : List Y1), ([] : Y1))))))
 (.c (Bool) (wks r3_.2.1 r3_.2.2.1 r3_.2.2.2 (wrap .i64 (r3_.1 + 1))) fun r25_ =>
 .t (!r25_)
 (.l ((0 : Int), (false, (([] : Y1), (([] : List Y1), ([] : Y1))))))
 (.l ((wrap .i64 (r3_.1 + 1)), (true, (r3_.2.1, (r3_.2.2.1, r3_.2.2.2))))))))
 (.t (a5_ == 5)
 (.t r5_
 (.c (Bool) (F_zg a7_ a1_ a2_ a3_ a4_) fun r26_ =>
 .t r26_
 (.g (inR a6_ (length r3_.2.2.1)) <|
 .g (decide ((toNat a6_) < length r3_.2.2.1)) <|
 .g (inR a7_ (length (getD r3_.2.2.1 (toNat a6_) ([] : Y1)))) <|
 .g (decide ((toNat a7_) < length (getD r3_.2.2.1 (toNat a6_) ([] : Y1)))) <|
 .t (!r26_)
 (.l ((0 : Int), (false, (([] : Y1), (([] : List Y1), ([] : Y1))))))
 (.c (Bool) (wks r3_.2.1 (set r3_.2.2.1 (toNat a6_) (set (getD r3_.2.2.1 (toNat a6_) ([] : Y1)) (toNat a7_) a8_)) r3_.2.2.2 (wrap .i64 (r3_.1 + 1))) fun r27_ =>
 .t (!r27_)
 (.l ((0 : Int), (false, (([] : Y1), (([] : List Y1), ([] : Y1))))))
 (.l ((wrap .i64 (r3_.1 + 1)), (true, (r3_.2.1, ((set r3_.2.2.1 (toNat a6_) (set (getD r3_.2.2.1 (toNat a6_) ([] : Y1)) (toNat a7_) a8_)), r3_.2.2.2)))))))
 (.t (!r26_)
 (.l ((0 : Int), (false, (([] : Y1), (([] : List Y1), ([] : Y1))))))
 (.c (Bool) (wks r3_.2.1 r3_.2.2.1 r3_.2.2.2 (wrap .i64 (r3_.1 + 1))) fun r28_ =>
 .t (!r28_)
 (.l ((0 : Int), (false, (([] : Y1), (([] : List Y1), ([] : Y1))))))
 (.l ((wrap .i64 (r3_.1 + 1)), (true, (r3_.2.1, (r3_.2.2.1, r3_.2.2.2))))))))
 (.l ((0 : Int), (false, (([] : Y1), (([] : List Y1), ([] : Y1)))))))
 (.t (a5_ == 6)
 (.t (((length a9_ : Nat) : Int) == ((length a2_ : Nat) : Int))
 (.g (decide ((length r3_.2.1 + length ([a6_] : Y1)) * 8 ≤ 140737488355328)) <|
 .c Y2 (L_zg ((((length a9_ : Nat) : Int) == ((length a2_ : Nat) : Int)), (a9_, (((length a9_ : Nat) : Int), ((0 : Int), ((wrap .i64 (r3_.1 + 1)), (([] : Y1), (([] : Y1), ((r3_.2.1 ++ ([a6_] : Y1)), r3_.2.2.2)))))))) ((0 : Int), r3_.2.2.1)) fun r48_ =>
 .t (!(((length a9_ : Nat) : Int) == ((length a2_ : Nat) : Int)))
 (.l ((0 : Int), (false, (([] : Y1), (([] : List Y1), ([] : Y1))))))
 (.c (Bool) (wks (r3_.2.1 ++ ([a6_] : Y1)) r48_ r3_.2.2.2 (wrap .i64 (r3_.1 + 1))) fun r49_ =>
 .t (!r49_)
 (.l ((0 : Int), (false, (([] : Y1), (([] : List Y1), ([] : Y1))))))
 (.l ((wrap .i64 (r3_.1 + 1)), (true, ((r3_.2.1 ++ ([a6_] : Y1)), (r48_, r3_.2.2.2)))))))
 (.t (!(((length a9_ : Nat) : Int) == ((length a2_ : Nat) : Int)))
 (.l ((0 : Int), (false, (([] : Y1), (([] : List Y1), ([] : Y1))))))
 (.c (Bool) (wks r3_.2.1 r3_.2.2.1 r3_.2.2.2 (wrap .i64 (r3_.1 + 1))) fun r50_ =>
 .t (!r50_)
 (.l ((0 : Int), (false, (([] : Y1), (([] : List Y1), ([] : Y1))))))
 (.l ((wrap .i64 (r3_.1 + 1)), (true, (r3_.2.1, (r3_.2.2.1, r3_.2.2.2))))))))
 (.t (a5_ == 7)
 (.c (List Int) (wqv a9_) fun r51_ =>
 .g (decide ((length r3_.2.2.1 + 1) * 24 ≤ 140737488355328)) <|
 .c (Bool) (wks r3_.2.1 (set (r3_.2.2.1 ++ [[]]) (length r3_.2.2.1) r51_) r3_.2.2.2 (wrap .i64 (r3_.1 + 1))) fun r52_ =>
 .t (!r52_)
 (.l ((0 : Int), (false, (([] : Y1), (([] : List Y1), ([] : Y1))))))
 (.l ((wrap .i64 (r3_.1 + 1)), (true, (r3_.2.1, ((set (r3_.2.2.1 ++ [[]]) (length r3_.2.2.1) r51_), r3_.2.2.2))))))
 (.t (a5_ == 8)
 (.c (Bool) (F_zg a6_ a1_ a2_ a3_ a4_) fun r53_ =>
 .t r53_
 (.c (Bool) (F_zz r4_ a6_) fun r54_ =>
 .t (!r54_)
 (.c (List Int) (warj a6_ (wrap .i64 (a6_ + 1)) r3_.2.1) fun r55_ =>
 .c Y2 (wawl (a6_, ((!r54_), (((length r3_.2.2.1 : Nat) : Int), ((0 : Int), ((wrap .i64 (r3_.1 + 1)), (r55_, r3_.2.2.2)))))) ((0 : Int), r3_.2.2.1)) fun r73_ =>
 .c Y1 (wawm (a6_, ((!r54_), (((length r3_.2.2.2 : Nat) : Int), ((0 : Int), ((wrap .i64 (r3_.1 + 1)), (r55_, r73_)))))) ((0 : Int), r3_.2.2.2)) fun r89_ =>
 .t (!(!r54_))
 (.l ((0 : Int), (false, (([] : Y1), (([] : List Y1), ([] : Y1))))))
 (.c (Bool) (wks r55_ r73_ r89_ (wrap .i64 (r3_.1 + 1))) fun r90_ =>
 .t (!r90_)
 (.l ((0 : Int), (false, (([] : Y1), (([] : List Y1), ([] : Y1))))))
 (.l ((wrap .i64 (r3_.1 + 1)), (true, (r55_, (r73_, r89_)))))))
 (.t (!(!r54_))
 (.l ((0 : Int), (false, (([] : Y1), (([] : List Y1), ([] : Y1))))))
 (.c (Bool) (wks r3_.2.1 r3_.2.2.1 r3_.2.2.2 (wrap .i64 (r3_.1 + 1))) fun r91_ =>
 .t (!r91_)
 (.l ((0 : Int), (false, (([] : Y1), (([] : List Y1), ([] : Y1))))))
 (.l ((wrap .i64 (r3_.1 + 1)), (true, (r3_.2.1, (r3_.2.2.1, r3_.2.2.2))))))))
 (.l ((0 : Int), (false, (([] : Y1), (([] : List Y1), ([] : Y1)))))))
 (.t (a5_ == 9)
 (.t r5_
 (.c (List (List Int)) (wbma a6_ (wrap .i64 (a6_ + 1)) r3_.2.2.1) fun r92_ =>
 .t (!r5_)
 (.l ((0 : Int), (false, (([] : Y1), (([] : List Y1), ([] : Y1))))))
 (.c (Bool) (wks r3_.2.1 r92_ r3_.2.2.2 (wrap .i64 (r3_.1 + 1))) fun r93_ =>
 .t (!r93_)
 (.l ((0 : Int), (false, (([] : Y1), (([] : List Y1), ([] : Y1))))))
 (.l ((wrap .i64 (r3_.1 + 1)), (true, (r3_.2.1, (r92_, r3_.2.2.2)))))))
 (.t (!r5_)
 (.l ((0 : Int), (false, (([] : Y1), (([] : List Y1), ([] : Y1))))))
 (.c (Bool) (wks r3_.2.1 r3_.2.2.1 r3_.2.2.2 (wrap .i64 (r3_.1 + 1))) fun r94_ =>
 .t (!r94_)
 (.l ((0 : Int), (false, (([] : Y1), (([] : List Y1), ([] : Y1))))))
 (.l ((wrap .i64 (r3_.1 + 1)), (true, (r3_.2.1, (r3_.2.2.1, r3_.2.2.2))))))))
 (.t (a5_ == 10)
 (.c (Int × (Bool × Y1)) (F_zv a1_ a2_ a3_) fun r95_ =>
 .t (!r95_.2.1)
 (.l ((0 : Int), (false, (([] : Y1), (([] : List Y1), ([] : Y1))))))
 (.c (Bool) (wks r3_.2.1 r3_.2.2.1 r95_.2.2 (wrap .i64 (r3_.1 + 1))) fun r96_ =>
 .t (!r96_)
 (.l ((0 : Int), (false, (([] : Y1), (([] : List Y1), ([] : Y1))))))
 (.l ((wrap .i64 (r3_.1 + 1)), (true, (r3_.2.1, (r3_.2.2.1, r95_.2.2)))))))
 (.t (a5_ == 11)
 (.c (Bool × Y1) (F_ze a1_ a2_) fun r97_ =>
 .t (!r97_.1)
 (.l ((0 : Int), (false, (([] : Y1), (([] : List Y1), ([] : Y1))))))
 (.c (Bool) (wks r3_.2.1 r3_.2.2.1 r97_.2 (wrap .i64 (r3_.1 + 1))) fun r98_ =>
 .t (!r98_)
 (.l ((0 : Int), (false, (([] : Y1), (([] : List Y1), ([] : Y1))))))
 (.l ((wrap .i64 (r3_.1 + 1)), (true, (r3_.2.1, (r3_.2.2.1, r97_.2)))))))
 (.l ((0 : Int), (false, (([] : Y1), (([] : List Y1), ([] : Y1))))))))))))))))))
noncomputable def F_zf (a1_ : Y1) (a2_ : List Y1) (a3_ : Y1) (a4_ : Int) (a5_ : Int) (a6_ : Int) (a7_ : Int) (a8_ : Int) (a9_ : Y1) : Option (Int × (Bool × (Y1 × (Y2 × Y1)))) := (T_zf a1_ a2_ a3_ a4_ a5_ a6_ a7_ a8_ a9_).ev
noncomputable def K_zf : RetK := { acts := [.ownB 4 0 5 3 yi, .ownRB 4 1 7 24 3 yi, .ownB 4 2 8 3 yi, .ren 1859 5, .ren 13888 5, .pinB 4 1 7, .pinB 4 2 8], res := [.cell 4 68, .tmp 5], sh := (yj [.agg (yj [.arr 5, .arr 7, .arr 8, .dat yi]), .dat .bool]), obs := [(5, .arr 3 yi), (7, .rows 24 3 yi), (8, .arr 3 yi)], pins := [] }
noncomputable def D_zf : FD := yd (yj [.agg (yj [.dat y1, .dat y2, .dat y1, .dat yi]), .agg (yj [.dat yi, .dat yi, .dat yi, .dat yi, .dat y1])]) [] [] (Int × (Bool × (Y1 × (Y2 × Y1)))) (fun x => F_zf x.1.1.1 x.1.1.2.1 x.1.1.2.2.1 x.1.1.2.2.2.1 x.1.2.1.1 x.1.2.1.2.1 x.1.2.1.2.2.1 x.1.2.1.2.2.2.1 x.1.2.1.2.2.2.2.1) (fun r => ([.agg [.arr 5, .arr 7, .arr 8, .dat yi r.1], .dat .bool r.2.1], [(5, .arr 3 yi r.2.2.1), (7, .rows 24 3 yi r.2.2.2.1 none), (8, .arr 3 yi r.2.2.2.2)]))
def Z_zf : Nat → Nat → List Nat := fun r i => match look [(48, [(0, [2000016]), (10, [5500016])])] r with
 | some l => (look l i).getD []
 | none => []
noncomputable def E_zf : Env := waa [(65, D_zs), (139, D_zh), (140, D_zd), (141, D_zy), (104, wut), (142, D_zg), (143, D_zz), (144, waeq), (145, wari), (146, wajt), (147, wblz), (148, wbmb), (77, D_zv), (149, D_ze)]
noncomputable def O_zf : List (Nat × LD) := [(1, wbmi), (3, wako), (5, wakp)]
noncomputable def C_zf : Code := (f45.body).getD .skip
noncomputable def wni (k : Y1 × Y1) (v : Int) : Tr ((Int) ⊕ ((Unit) ⊕ (Unit))) :=
 .t (decide (v < ((length k.1 : Nat) : Int)))
 (.g (inR v (length k.1)) <|
 .g (inR v (length k.2)) <|
 .t ((getD k.1 (toNat v) 0) != (getD k.2 (toNat v) 0))
 (.l (.inr (.inr ())))
 (.l (.inl (wrap .i64 (v + 1)))))
 (.l (.inr (.inl ())))
noncomputable def wakq (k : Y1 × Y1) (v : Int) : Option ((Unit) ⊕ (Unit)) := iter (fun v => (wni k v).ev) v
noncomputable def wacc : LD := ⟨(yh [0, 1, 5] (yj [.dat y1, .dat y1, .dat yi])), [(0, (yh [] .nil))], (yh [4] (yj [.dat .bool])), Y1 × Y1, Int, (Unit) ⊕ (Unit), fun k v => ((k.1, (k.2, (v, ()))), ()), fun t => (t.1.1, t.1.2.1), fun t => t.1.2.2.1, wni, fun _ r => .s (Unit) (Unit) r (fun _ => .l (.exit 0 (wbd ((ys [] .nil)) ((), ())))) (fun _ => .l (.ret (wbd ((ys [4] (yj [.dat .bool]))) ((false, ()), ()))))⟩
noncomputable def wbgf (a1_ : Y1) (a2_ : Y1) : Tr (Bool) :=
 .t (((length a1_ : Nat) : Int) != ((length a2_ : Nat) : Int))
 (.l false)
 (.c ((Unit) ⊕ (Unit)) (wakq (a1_, a2_) (0 : Int)) fun r5_ =>
 .s (Unit) (Unit) r5_
 (fun _ => .l true)
 (fun _ => .l false))
noncomputable def wyp (a1_ : Y1) (a2_ : Y1) : Option (Bool) := (wbgf a1_ a2_).ev
noncomputable def wbyx : RetK := yr [.tmp 4] (yj [.dat .bool])
noncomputable def waev : FD := yd (yj [.dat y1, .dat y1]) [] [] Bool (fun x => wyp x.1.1 x.1.2.1) (fun r => ([.dat .bool r], []))
noncomputable def wbgg : Env := waa []
noncomputable def wbgh : List (Nat × LD) := [(0, wacc)]
noncomputable def wbgi : Code := (f151.body).getD .skip
noncomputable def wnj (k : Y2 × Y2) (v : Int) : Tr ((Int) ⊕ ((Unit) ⊕ (Unit))) :=
 .t (decide (v < ((length k.1 : Nat) : Int)))
 (.g (inR v (length k.1)) <|
 .g (inR v (length k.2)) <|
 .c (Bool) (wyp (getD k.1 (toNat v) ([] : Y1)) (getD k.2 (toNat v) ([] : Y1))) fun r4_ =>
 .t (!r4_)
 (.l (.inr (.inr ())))
 (.l (.inl (wrap .i64 (v + 1)))))
 (.l (.inr (.inl ())))
noncomputable def wakr (k : Y2 × Y2) (v : Int) : Option ((Unit) ⊕ (Unit)) := iter (fun v => (wnj k v).ev) v
noncomputable def wacd : LD := ⟨(yh [0, 1, 5] (yj [.dat y2, .dat y2, .dat yi])), [(0, (yh [] .nil))], (yh [4] (yj [.dat .bool])), Y2 × Y2, Int, (Unit) ⊕ (Unit), fun k v => ((k.1, (k.2, (v, ()))), ()), fun t => (t.1.1, t.1.2.1), fun t => t.1.2.2.1, wnj, fun _ r => .s (Unit) (Unit) r (fun _ => .l (.exit 0 (wbd ((ys [] .nil)) ((), ())))) (fun _ => .l (.ret (wbd ((ys [4] (yj [.dat .bool]))) ((false, ()), ()))))⟩
noncomputable def wbgj (a1_ : List Y1) (a2_ : List Y1) : Tr (Bool) :=
 .t (((length a1_ : Nat) : Int) != ((length a2_ : Nat) : Int))
 (.l false)
 (.c ((Unit) ⊕ (Unit)) (wakr (a1_, a2_) (0 : Int)) fun r6_ =>
 .s (Unit) (Unit) r6_
 (fun _ => .l true)
 (fun _ => .l false))
noncomputable def wass (a1_ : List Y1) (a2_ : List Y1) : Option (Bool) := (wbgj a1_ a2_).ev
noncomputable def wbyy : RetK := yr [.tmp 4] (yj [.dat .bool])
noncomputable def wbgk : FD := yd (yj [.dat y2, .dat y2]) [] [] Bool (fun x => wass x.1.1 x.1.2.1) (fun r => ([.dat .bool r], []))
noncomputable def wbgl : Env := waa [(151, waev)]
noncomputable def wbgm : List (Nat × LD) := [(0, wacd)]
noncomputable def wbgn : Code := (f215.body).getD .skip
noncomputable def wbgo (a1_ : Y1) (a2_ : List Y1) (a3_ : Y1) (a4_ : List Y1) : Tr (Bool) :=
 .c (Bool) (wyp a1_ a3_) fun r1_ =>
 .t (!r1_)
 (.l false)
 (.c (Bool) (wass a2_ a4_) fun r2_ =>
 .t (!r2_)
 (.l false)
 (.l true))
noncomputable def wast (a1_ : Y1) (a2_ : List Y1) (a3_ : Y1) (a4_ : List Y1) : Option (Bool) := (wbgo a1_ a2_ a3_ a4_).ev
noncomputable def wbyz : RetK := yr [.tmp 4] (yj [.dat .bool])
noncomputable def wbgp : FD := yd (yj [.agg (yj [.dat y1, .dat y2]), .agg (yj [.dat y1, .dat y2])]) [] [] Bool (fun x => wast x.1.1.1 x.1.1.2.1 x.1.2.1.1 x.1.2.1.2.1) (fun r => ([.dat .bool r], []))
noncomputable def wbgq (a1_ : Y1) (a2_ : List Y1) (a3_ : Y1) (a4_ : Int) (a5_ : Y1) (a6_ : List Y1) (a7_ : Y1) (a8_ : Int) : Tr (Bool) :=
 .c (Bool) (wast a1_ a2_ a5_ a6_) fun r1_ =>
 .t (!r1_)
 (.l false)
 (.c (Bool) (wyp a3_ a7_) fun r2_ =>
 .t (!r2_)
 (.l false)
 (.t (a4_ != a8_)
 (.l false)
 (.l true)))
noncomputable def wyq (a1_ : Y1) (a2_ : List Y1) (a3_ : Y1) (a4_ : Int) (a5_ : Y1) (a6_ : List Y1) (a7_ : Y1) (a8_ : Int) : Option (Bool) := (wbgq a1_ a2_ a3_ a4_ a5_ a6_ a7_ a8_).ev
noncomputable def wbza : RetK := yr [.tmp 4] (yj [.dat .bool])
noncomputable def wbgr : FD := yd (yj [.agg (yj [.dat y1, .dat y2, .dat y1, .dat yi]), .agg (yj [.dat y1, .dat y2, .dat y1, .dat yi])]) [] [] Bool (fun x => wyq x.1.1.1 x.1.1.2.1 x.1.1.2.2.1 x.1.1.2.2.2.1 x.1.2.1.1 x.1.2.1.2.1 x.1.2.1.2.2.1 x.1.2.1.2.2.2.1) (fun r => ([.dat .bool r], []))
noncomputable def wbgs (a1_ : Int) (a2_ : Int) (a3_ : Int) (a4_ : Int) (a5_ : Y1) (a6_ : Int) (a7_ : Int) (a8_ : Int) (a9_ : Int) (a10_ : Y1) : Tr (Bool) :=
 .t (a1_ != a6_)
 (.l false)
 (.t (a2_ != a7_)
 (.l false)
 (.t (a3_ != a8_)
 (.l false)
 (.t (a4_ != a9_)
 (.l false)
 (.c (Bool) (wyp a5_ a10_) fun r1_ =>
 .t (!r1_)
 (.l false)
 (.l true)))))
noncomputable def wasu (a1_ : Int) (a2_ : Int) (a3_ : Int) (a4_ : Int) (a5_ : Y1) (a6_ : Int) (a7_ : Int) (a8_ : Int) (a9_ : Int) (a10_ : Y1) : Option (Bool) := (wbgs a1_ a2_ a3_ a4_ a5_ a6_ a7_ a8_ a9_ a10_).ev
noncomputable def wbzb : RetK := yr [.tmp 4] (yj [.dat .bool])
noncomputable def wbgt : FD := yd (yj [.agg (yj [.dat yi, .dat yi, .dat yi, .dat yi, .dat y1]), .agg (yj [.dat yi, .dat yi, .dat yi, .dat yi, .dat y1])]) [] [] Bool (fun x => wasu x.1.1.1 x.1.1.2.1 x.1.1.2.2.1 x.1.1.2.2.2.1 x.1.1.2.2.2.2.1 x.1.2.1.1 x.1.2.1.2.1 x.1.2.1.2.2.1 x.1.2.1.2.2.2.1 x.1.2.1.2.2.2.2.1) (fun r => ([.dat .bool r], []))
noncomputable def wnk (_k : Unit) (v : Int × (Int × Y1)) : Tr ((Int × (Int × Y1)) ⊕ (Int × Y1)) :=
 .t (decide (v.2.1 < ((length v.2.2 : Nat) : Int)))
 (.g (inR v.2.1 (length v.2.2)) <|
 .g (decide ((toNat v.2.1) < length v.2.2)) <|
 .l (.inl ((wrap .i64 (v.1 + 1)), ((wrap .i64 (v.2.1 + 1)), (set v.2.2 (toNat v.2.1) v.1)))))
 (.l (.inr (v.1, v.2.2)))
noncomputable def waks (k : Unit) (v : Int × (Int × Y1)) : Option (Int × Y1) := iter (fun v => (wnk k v).ev) v
noncomputable def wace : LD := ⟨{ acts := [], S := { slots := [0, 1, 5], sh := (yj [.arr 64, .dat yi, .dat yi]), obs := [(64, .arr 3 yi)] } }, [(0, { acts := [], S := { slots := [0, 1], sh := (yj [.arr 64, .dat yi]), obs := [(64, .arr 3 yi)] } })], (yh [] .nil), Unit, Int × (Int × Y1), Int × Y1, fun _ v => (((), (v.1, (v.2.1, ()))), (v.2.2, ())), fun _ => (), fun t => (t.1.2.1, (t.1.2.2.1, t.2.1)), wnk, fun _ r => .l (.exit 0 (wbd ({ slots := [0, 1], sh := (yj [.arr 64, .dat yi]), obs := [(64, .arr 3 yi)] }) (((), (r.1, ())), (r.2, ()))))⟩
noncomputable def wbgu (a2_ : Int) (a1_ : Y1) : Tr (Int × Y1) :=
 .c (Int × Y1) (waks () (a2_, ((0 : Int), a1_))) fun r6_ =>
 .l (r6_.1, r6_.2)
noncomputable def wyr (a2_ : Int) (a1_ : Y1) : Option (Int × Y1) := (wbgu a2_ a1_).ev
noncomputable def wbzc : RetK := { acts := [], res := [.tmp 4], sh := (yj [.dat yi]), obs := [(64, .arr 3 yi)], pins := [(0, 0, 64)] }
noncomputable def waew : FD := yd (yj [.arr 64, .dat yi]) [(64, .arr 3 yi)] [.arg 0] (Int × Y1) (fun x => wyr x.1.2.1 x.2.1) (fun r => ([.dat yi r.1], [(64, .arr 3 yi r.2)]))
noncomputable def wbgv : Env := waa []
noncomputable def wbgw : List (Nat × LD) := [(0, wace)]
noncomputable def wbgx : Code := (f153.body).getD .skip
noncomputable def wnl (_k : Unit) (v : Int × (Int × Y2)) : Tr ((Int × (Int × Y2)) ⊕ (Int × Y2)) :=
 .t (decide (v.2.1 < ((length v.2.2 : Nat) : Int)))
 (.g (inR v.2.1 (length v.2.2)) <|
 .g (decide ((toNat v.2.1) < length v.2.2)) <|
 .c (Int × Y1) (wyr v.1 (getD v.2.2 (toNat v.2.1) ([] : Y1))) fun r4_ =>
 .l (.inl (r4_.1, ((wrap .i64 (v.2.1 + 1)), (set v.2.2 (toNat v.2.1) r4_.2)))))
 (.l (.inr (v.1, v.2.2)))
noncomputable def wakt (k : Unit) (v : Int × (Int × Y2)) : Option (Int × Y2) := iter (fun v => (wnl k v).ev) v
noncomputable def wacf : LD := ⟨{ acts := [.fz 500015], S := { slots := [0, 1, 5], sh := (yj [.arr 64, .dat yi, .dat yi]), obs := [(64, .rows 24 3 yi)] } }, [(0, { acts := [], S := { slots := [0, 1], sh := (yj [.arr 64, .dat yi]), obs := [(64, .rows 24 3 yi)] } })], (yh [] .nil), Unit, Int × (Int × Y2), Int × Y2, fun _ v => (((), (v.1, (v.2.1, ()))), (v.2.2, ())), fun _ => (), fun t => (t.1.2.1, (t.1.2.2.1, t.2.1)), wnl, fun _ r => .l (.exit 0 (wbd ({ slots := [0, 1], sh := (yj [.arr 64, .dat yi]), obs := [(64, .rows 24 3 yi)] }) (((), (r.1, ())), (r.2, ()))))⟩
noncomputable def wbgy (a2_ : Int) (a1_ : List Y1) : Tr (Int × Y2) :=
 .c (Int × Y2) (wakt () (a2_, ((0 : Int), a1_))) fun r7_ =>
 .l (r7_.1, r7_.2)
noncomputable def wasv (a2_ : Int) (a1_ : List Y1) : Option (Int × Y2) := (wbgy a2_ a1_).ev
noncomputable def wbzd : RetK := { acts := [], res := [.tmp 4], sh := (yj [.dat yi]), obs := [(64, .rows 24 3 yi)], pins := [(0, 0, 64)] }
noncomputable def wbgz : FD := yd (yj [.arr 64, .dat yi]) [(64, .rows 24 3 yi)] [.arg 0] (Int × Y2) (fun x => wasv x.1.2.1 x.2.1) (fun r => ([.dat yi r.1], [(64, .rows 24 3 yi r.2 none)]))
noncomputable def wbha : Nat → Nat → List Nat := fun r i => match look [(4, [(5, [2000015])])] r with
 | some l => (look l i).getD []
 | none => []
noncomputable def wbhb : Env := waa [(153, waew)]
noncomputable def wbhc : List (Nat × LD) := [(0, wacf)]
noncomputable def wbhd : Code := (f216.body).getD .skip
noncomputable def wbhe (a3_ : Int) (a1_ : Y1) (a2_ : List Y1) : Tr (Int × (Y1 × Y2)) :=
 .c (Int × Y1) (wyr a3_ a1_) fun r1_ =>
 .c (Int × Y2) (wasv r1_.1 a2_) fun r2_ =>
 .l (r2_.1, (r1_.2, r2_.2))
noncomputable def wasw (a3_ : Int) (a1_ : Y1) (a2_ : List Y1) : Option (Int × (Y1 × Y2)) := (wbhe a3_ a1_ a2_).ev
noncomputable def wbze : RetK := { acts := [], res := [.tmp 4], sh := (yj [.dat yi]), obs := [(64, .arr 3 yi), (65, .rows 24 3 yi)], pins := [(0, 1, 64), (0, 2, 65)] }
noncomputable def wbhf : FD := yd (yj [.agg (yj [.arr 64, .arr 65]), .dat yi]) [(64, .arr 3 yi), (65, .rows 24 3 yi)] [.comp 0 0, .comp 0 1] (Int × (Y1 × Y2)) (fun x => wasw x.1.2.1 x.2.1 x.2.2.1) (fun r => ([.dat yi r.1], [(64, .arr 3 yi r.2.1), (65, .rows 24 3 yi r.2.2 none)]))
noncomputable def wbhg (_a4_ : Int) (a5_ : Int) (a1_ : Y1) (a2_ : List Y1) (a3_ : Y1) : Tr (Int × (Y1 × (Y2 × Y1))) :=
 .c (Int × (Y1 × Y2)) (wasw a5_ a1_ a2_) fun r1_ =>
 .c (Int × Y1) (wyr r1_.1 a3_) fun r2_ =>
 .l (r2_.1, (r1_.2.1, (r1_.2.2, r2_.2)))
noncomputable def waku (a4_ : Int) (a5_ : Int) (a1_ : Y1) (a2_ : List Y1) (a3_ : Y1) : Option (Int × (Y1 × (Y2 × Y1))) := (wbhg a4_ a5_ a1_ a2_ a3_).ev
noncomputable def wbzf : RetK := { acts := [], res := [.tmp 4], sh := (yj [.dat yi]), obs := [(64, .arr 3 yi), (65, .rows 24 3 yi), (66, .arr 3 yi)], pins := [(0, 1, 64), (0, 2, 65), (0, 3, 66)] }
noncomputable def wbhh : FD := yd (yj [.agg (yj [.arr 64, .arr 65, .arr 66, .dat yi]), .dat yi]) [(64, .arr 3 yi), (65, .rows 24 3 yi), (66, .arr 3 yi)] [.comp 0 0, .comp 0 1, .comp 0 2] (Int × (Y1 × (Y2 × Y1))) (fun x => waku x.1.1.2.2.2.1 x.1.2.1 x.2.1 x.2.2.1 x.2.2.2.1) (fun r => ([.dat yi r.1], [(64, .arr 3 yi r.2.1), (65, .rows 24 3 yi r.2.2.1 none), (66, .arr 3 yi r.2.2.2)]))
noncomputable def wbhi (_a1_ : Int) (_a2_ : Int) (_a3_ : Int) (_a4_ : Int) (a6_ : Int) (a5_ : Y1) : Tr (Int × Y1) :=
 .c (Int × Y1) (wyr a6_ a5_) fun r1_ =>
 .l (r1_.1, r1_.2)
noncomputable def wasx (a1_ : Int) (a2_ : Int) (a3_ : Int) (a4_ : Int) (a6_ : Int) (a5_ : Y1) : Option (Int × Y1) := (wbhi a1_ a2_ a3_ a4_ a6_ a5_).ev
noncomputable def wbzg : RetK := { acts := [], res := [.tmp 4], sh := (yj [.dat yi]), obs := [(64, .arr 3 yi)], pins := [(0, 5, 64)] }
noncomputable def wbhj : FD := yd (yj [.agg (yj [.dat yi, .dat yi, .dat yi, .dat yi, .arr 64]), .dat yi]) [(64, .arr 3 yi)] [.comp 0 4] (Int × Y1) (fun x => wasx x.1.1.1 x.1.1.2.1 x.1.1.2.2.1 x.1.1.2.2.2.1 x.1.2.1 x.2.1) (fun r => ([.dat yi r.1], [(64, .arr 3 yi r.2)]))
noncomputable def wno (k : Y1) (v : Int × Int) : Tr ((Int × Int) ⊕ ((Int) ⊕ (Unit))) :=
 .t (decide (v.2 < ((length k : Nat) : Int)))
 (.g (inR v.2 (length k)) <|
 .t ((getD k (toNat v.2) 0) != v.1)
 (.l (.inr (.inr ())))
 (.l (.inl ((wrap .i64 (v.1 + 1)), (wrap .i64 (v.2 + 1))))))
 (.l (.inr (.inl v.1)))
noncomputable def wakv (k : Y1) (v : Int × Int) : Option ((Int) ⊕ (Unit)) := iter (fun v => (wno k v).ev) v
noncomputable def wacg : LD := ⟨(yh [0, 1, 5] (yj [.dat y1, .dat yi, .dat yi])), [(0, (yh [1] (yj [.dat yi])))], (yh [4] (yj [.dat yi])), Y1, Int × (Int), (Int) ⊕ (Unit), fun k v => ((k, (v.1, (v.2, ()))), ()), fun t => t.1.1, fun t => (t.1.2.1, t.1.2.2.1), wno, fun _ r => .s (Int) (Unit) r (fun a => .l (.exit 0 (wbd ((ys [1] (yj [.dat yi]))) ((a, ()), ())))) (fun _ => .l (.ret (wbd ((ys [4] (yj [.dat yi]))) (((-1 : Int), ()), ()))))⟩
noncomputable def wbhk (a1_ : Y1) (a2_ : Int) : Tr (Int) :=
 .c ((Int) ⊕ (Unit)) (wakv a1_ (a2_, (0 : Int))) fun r6_ =>
 .s (Int) (Unit) r6_
 (fun r7_ => .l r7_)
 (fun _ => .l (-1 : Int))
noncomputable def waex (a1_ : Y1) (a2_ : Int) : Option (Int) := (wbhk a1_ a2_).ev
noncomputable def wbzh : RetK := yr [.tmp 4] (yj [.dat yi])
noncomputable def wakw : FD := yd (yj [.dat y1, .dat yi]) [] [] Int (fun x => waex x.1.1 x.1.2.1) (fun r => ([.dat yi r], []))
noncomputable def wbhl : Env := waa []
noncomputable def wbhm : List (Nat × LD) := [(0, wacg)]
noncomputable def wbhn : Code := (f155.body).getD .skip
noncomputable def wnp (k : List Y1) (v : Int × Int) : Tr ((Int × Int) ⊕ ((Int) ⊕ (Unit))) :=
 .t (decide (v.2 < ((length k : Nat) : Int)))
 (.g (inR v.2 (length k)) <|
 .c (Int) (waex (getD k (toNat v.2) ([] : Y1)) v.1) fun r4_ =>
 .t (decide (r4_ < 0))
 (.l (.inr (.inr ())))
 (.l (.inl (r4_, (wrap .i64 (v.2 + 1))))))
 (.l (.inr (.inl v.1)))
noncomputable def wakx (k : List Y1) (v : Int × Int) : Option ((Int) ⊕ (Unit)) := iter (fun v => (wnp k v).ev) v
noncomputable def wach : LD := ⟨(yh [0, 1, 5] (yj [.dat y2, .dat yi, .dat yi])), [(0, (yh [1] (yj [.dat yi])))], (yh [4] (yj [.dat yi])), List Y1, Int × (Int), (Int) ⊕ (Unit), fun k v => ((k, (v.1, (v.2, ()))), ()), fun t => t.1.1, fun t => (t.1.2.1, t.1.2.2.1), wnp, fun _ r => .s (Int) (Unit) r (fun a => .l (.exit 0 (wbd ((ys [1] (yj [.dat yi]))) ((a, ()), ())))) (fun _ => .l (.ret (wbd ((ys [4] (yj [.dat yi]))) (((-1 : Int), ()), ()))))⟩
noncomputable def wbho (a1_ : List Y1) (a2_ : Int) : Tr (Int) :=
 .c ((Int) ⊕ (Unit)) (wakx a1_ (a2_, (0 : Int))) fun r7_ =>
 .s (Int) (Unit) r7_
 (fun r8_ => .l r8_)
 (fun _ => .l (-1 : Int))
noncomputable def wasy (a1_ : List Y1) (a2_ : Int) : Option (Int) := (wbho a1_ a2_).ev
noncomputable def wbzi : RetK := yr [.tmp 4] (yj [.dat yi])
noncomputable def wbhp : FD := yd (yj [.dat y2, .dat yi]) [] [] Int (fun x => wasy x.1.1 x.1.2.1) (fun r => ([.dat yi r], []))
noncomputable def wbhq : Env := waa [(155, wakw)]
noncomputable def wbhr : List (Nat × LD) := [(0, wach)]
noncomputable def wbhs : Code := (f217.body).getD .skip
noncomputable def wbht (a1_ : Y1) (a2_ : List Y1) (a3_ : Int) : Tr (Int) :=
 .c (Int) (waex a1_ a3_) fun r1_ =>
 .t (decide (r1_ < 0))
 (.l (-1 : Int))
 (.c (Int) (wasy a2_ r1_) fun r2_ =>
 .t (decide (r2_ < 0))
 (.l (-1 : Int))
 (.l r2_))
noncomputable def wasz (a1_ : Y1) (a2_ : List Y1) (a3_ : Int) : Option (Int) := (wbht a1_ a2_ a3_).ev
noncomputable def wbzj : RetK := yr [.tmp 4] (yj [.dat yi])
noncomputable def wbhu : FD := yd (yj [.agg (yj [.dat y1, .dat y2]), .dat yi]) [] [] Int (fun x => wasz x.1.1.1 x.1.1.2.1 x.1.2.1) (fun r => ([.dat yi r], []))
noncomputable def wbhv (a1_ : Y1) (a2_ : List Y1) (a3_ : Y1) (_a4_ : Int) (a5_ : Int) : Tr (Int) :=
 .c (Int) (wasz a1_ a2_ a5_) fun r1_ =>
 .t (decide (r1_ < 0))
 (.l (-1 : Int))
 (.c (Int) (waex a3_ r1_) fun r2_ =>
 .t (decide (r2_ < 0))
 (.l (-1 : Int))
 (.l r2_))
noncomputable def waky (a1_ : Y1) (a2_ : List Y1) (a3_ : Y1) (a4_ : Int) (a5_ : Int) : Option (Int) := (wbhv a1_ a2_ a3_ a4_ a5_).ev
noncomputable def wbzk : RetK := yr [.tmp 4] (yj [.dat yi])
noncomputable def wbhw : FD := yd (yj [.agg (yj [.dat y1, .dat y2, .dat y1, .dat yi]), .dat yi]) [] [] Int (fun x => waky x.1.1.1 x.1.1.2.1 x.1.1.2.2.1 x.1.1.2.2.2.1 x.1.2.1) (fun r => ([.dat yi r], []))
noncomputable def wbhx (a1_ : Y1) (a2_ : List Y1) (a3_ : Y1) (a4_ : Int) (a5_ : Int) (a6_ : Int) (a7_ : Int) (a8_ : Int) (a9_ : Y1) : Tr (Bool) :=
 .c (Int) (wapm a1_ a2_ a3_ a4_ (1048576 : Int)) fun r1_ =>
 .t (decide (r1_ < 0))
 (.l true)
 (.c (Int) (wael a5_ a6_ a7_ a8_ a9_ r1_) fun r2_ =>
 .t (decide (r2_ < 0))
 (.l true)
 (.c (Int × (Y1 × (Y2 × Y1))) (wxq a1_ a2_ a3_ a4_) fun r3_ =>
 .c (Int × (Int × (Int × (Int × Y1)))) (wxr a5_ a6_ a7_ a8_ a9_) fun r4_ =>
 .c (Int × (Bool × (Y1 × (Y2 × Y1)))) (waqy r3_.2.1 r3_.2.2.1 r3_.2.2.2 r3_.1 r4_.1 r4_.2.1 r4_.2.2.1 r4_.2.2.2.1 r4_.2.2.2.2) fun r5_ =>
 .c (Int × (Y1 × (Y2 × Y1))) (wxq a1_ a2_ a3_ a4_) fun r6_ =>
 .c (Int × (Int × (Int × (Int × Y1)))) (wxr a5_ a6_ a7_ a8_ a9_) fun r7_ =>
 .c (Int × (Bool × (Y1 × (Y2 × Y1)))) (F_zf r6_.2.1 r6_.2.2.1 r6_.2.2.2 r6_.1 r7_.1 r7_.2.1 r7_.2.2.1 r7_.2.2.2.1 r7_.2.2.2.2) fun r8_ =>
 .c (Bool) (wyq r8_.2.2.1 r8_.2.2.2.1 r8_.2.2.2.2 r8_.1 r5_.2.2.1 r5_.2.2.2.1 r5_.2.2.2.2 r5_.1) fun r9_ =>
 .t (!r9_)
 (.l false)
 (.t (!(r8_.2.1 == r5_.2.1))
 (.l false)
 (.c (Int × (Y1 × (Y2 × Y1))) (wxq a1_ a2_ a3_ a4_) fun r10_ =>
 .c (Bool) (wyq r6_.2.1 r6_.2.2.1 r6_.2.2.2 r6_.1 r10_.2.1 r10_.2.2.1 r10_.2.2.2 r10_.1) fun r11_ =>
 .t (!r11_)
 (.l false)
 (.c (Int × (Int × (Int × (Int × Y1)))) (wxr a5_ a6_ a7_ a8_ a9_) fun r12_ =>
 .c (Bool) (wasu r7_.1 r7_.2.1 r7_.2.2.1 r7_.2.2.2.1 r7_.2.2.2.2 r12_.1 r12_.2.1 r12_.2.2.1 r12_.2.2.2.1 r12_.2.2.2.2) fun r13_ =>
 .t (!r13_)
 (.l false)
 (.c (Int × (Y1 × (Y2 × Y1))) (waku r6_.1 (1 : Int) r6_.2.1 r6_.2.2.1 r6_.2.2.2) fun r14_ =>
 .c (Int × Y1) (wasx r7_.1 r7_.2.1 r7_.2.2.1 r7_.2.2.2.1 r14_.1 r7_.2.2.2.2) fun r15_ =>
 .t (decide (r15_.1 < 0))
 (.l false)
 (.c (Bool) (wyq r8_.2.2.1 r8_.2.2.2.1 r8_.2.2.2.2 r8_.1 r5_.2.2.1 r5_.2.2.2.1 r5_.2.2.2.2 r5_.1) fun r16_ =>
 .t (!r16_)
 (.l false)
 (.t (!(r8_.2.1 == r5_.2.1))
 (.l false)
 (.c (Int × (Y1 × (Y2 × Y1))) (waku r8_.1 (1 : Int) r8_.2.2.1 r8_.2.2.2.1 r8_.2.2.2.2) fun r17_ =>
 .c (Int) (waky r17_.2.1 r17_.2.2.1 r17_.2.2.2 r8_.1 (1 : Int)) fun r18_ =>
 .t (decide (r18_ < 0))
 (.l false)
 (.t (r18_ != r17_.1)
 (.l false)
 (.c (Int × (Y1 × (Y2 × Y1))) (wxq a1_ a2_ a3_ a4_) fun r19_ =>
 .c (Int × (Int × (Int × (Int × Y1)))) (wxr a5_ a6_ a7_ a8_ a9_) fun r20_ =>
 .c (Int × (Bool × (Y1 × (Y2 × Y1)))) (F_zf r19_.2.1 r19_.2.2.1 r19_.2.2.2 r19_.1 r20_.1 r20_.2.1 r20_.2.2.1 r20_.2.2.2.1 r20_.2.2.2.2) fun r21_ =>
 .c (Bool) (wyq r21_.2.2.1 r21_.2.2.2.1 r21_.2.2.2.2 r21_.1 r5_.2.2.1 r5_.2.2.2.1 r5_.2.2.2.2 r5_.1) fun r22_ =>
 .t (!r22_)
 (.l false)
 (.t (!(r21_.2.1 == r5_.2.1))
 (.l false)
 (.c (Int) (waky r17_.2.1 r17_.2.2.1 r17_.2.2.2 r8_.1 (1 : Int)) fun r23_ =>
 .t (decide (r23_ < 0))
 (.l false)
 (.t (r23_ != r17_.1)
 (.l false)
 (.l true)))))))))))))))
noncomputable def wbhy (a1_ : Y1) (a2_ : List Y1) (a3_ : Y1) (a4_ : Int) (a5_ : Int) (a6_ : Int) (a7_ : Int) (a8_ : Int) (a9_ : Y1) : Option (Bool) := (wbhx a1_ a2_ a3_ a4_ a5_ a6_ a7_ a8_ a9_).ev
noncomputable def wbzl : RetK := yr [.tmp 4] (yj [.dat .bool])
noncomputable def wbhz : FD := yd (yj [.agg (yj [.dat y1, .dat y2, .dat y1, .dat yi]), .agg (yj [.dat yi, .dat yi, .dat yi, .dat yi, .dat y1])]) [] [] Bool (fun x => wbhy x.1.1.1 x.1.1.2.1 x.1.1.2.2.1 x.1.1.2.2.2.1 x.1.2.1.1 x.1.2.1.2.1 x.1.2.1.2.2.1 x.1.2.1.2.2.2.1 x.1.2.1.2.2.2.2.1) (fun r => ([.dat .bool r], []))
end Go.Proofs.YtnagpmhaddfgmaaGreat
