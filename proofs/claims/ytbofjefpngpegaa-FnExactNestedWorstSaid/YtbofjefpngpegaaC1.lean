import Derived.Test.YtbofjefpngpegaaC3
import Derived.Test.YtbofjefpngpegaaProg
namespace Go.Proofs.Ytbofjefpngpegaa
open Go.Proofs.Try
noncomputable def S_zbn_0 (rec_ : (Int) → (Int) → (Int) → ((HL [y1, y1] → Option (Int))) → ((List Nat) × Y2) → Option ((List Nat) × Y2)) (k : (HL [y1, y1] → Option (Int))) (v : Int × (Int × (Int × (Bool × (Bool × ((List Nat) × Y2)))))) : Tr ((Int × (Int × (Int × (Bool × (Bool × ((List Nat) × Y2)))))) ⊕ ((List Nat) × Y2)) :=
 .t (decide ((IntKind.wrap .i64 (v.2.1 - v.1)) ≤ (12 : Int)))
 (.c ((List Nat) × Y2) (F_zbc v.1 v.2.1 k v.2.2.2.2.2) fun r8_ =>
 .l (.inr r8_))
 (.t (v.2.2.1 == (0 : Int))
 (.f)
 (.t (!v.2.2.2.1)
 (.c ((List Nat) × Y2) (F_zay v.1 v.2.1 k v.2.2.2.2.2) fun r9_ =>
 .c (Int × Int) (F_zba (permL r9_.1 r9_.2) v.1 v.2.1 k) fun r10_ =>
 .t (r10_.2 == (2 : Int))
 (.f)
 (.t v.2.2.2.1
 (.t v.2.2.2.2.1
 (.t (r10_.2 == (1 : Int))
 (.f)
 (.t (decide ((0 : Int) < v.1))
 (.g (inR (IntKind.wrap .i64 (v.1 - (1 : Int))) (List.length r9_.1)) <|
 .g (decide ((Int.toNat (IntKind.wrap .i64 (v.1 - (1 : Int)))) < List.length r9_.1) && decide ((List.getD r9_.1 (Int.toNat (IntKind.wrap .i64 (v.1 - (1 : Int)))) 0) < List.length r9_.2)) <|
 .g (inR r10_.1 (List.length r9_.1)) <|
 .g (decide ((Int.toNat r10_.1) < List.length r9_.1) && decide ((List.getD r9_.1 (Int.toNat r10_.1) 0) < List.length r9_.2)) <|
 .c (Int) (k ((List.getD r9_.2 (List.getD r9_.1 (Int.toNat (IntKind.wrap .i64 (v.1 - (1 : Int)))) 0) ([] : Y1)), ((List.getD r9_.2 (List.getD r9_.1 (Int.toNat r10_.1) 0) ([] : Y1)), ()))) fun r11_ =>
 .t (!(decide (r11_ < (0 : Int))))
 (.f)
 (.c (Int × (Bool × ((List Nat) × Y2))) (F_zbl v.1 v.2.1 r10_.1 k r9_) fun r12_ =>
 .g (!decide ((8 : Int) = 0)) <|
 .t (decide ((IntKind.wrap .i64 (r12_.1 - v.1)) < (IntKind.wrap .i64 (v.2.1 - r12_.1))))
 (.c ((List Nat) × Y2) (rec_ v.1 r12_.1 (IntKind.wrap .i64 (v.2.2.1 - (1 : Int))) k r12_.2.2) fun r13_ =>
 .l (.inl ((IntKind.wrap .i64 (r12_.1 + (1 : Int))), (v.2.1, ((IntKind.wrap .i64 (v.2.2.1 - (1 : Int))), ((decide ((IntKind.wrap .i64 (Int.tdiv (IntKind.wrap .i64 (v.2.1 - v.1)) (8 : Int))) ≤ (IntKind.wrap .i64 (r12_.1 - v.1)))), (r12_.2.1, r13_)))))))
 (.c ((List Nat) × Y2) (rec_ (IntKind.wrap .i64 (r12_.1 + (1 : Int))) v.2.1 (IntKind.wrap .i64 (v.2.2.1 - (1 : Int))) k r12_.2.2) fun r14_ =>
 .l (.inl (v.1, (r12_.1, ((IntKind.wrap .i64 (v.2.2.1 - (1 : Int))), ((decide ((IntKind.wrap .i64 (Int.tdiv (IntKind.wrap .i64 (v.2.1 - v.1)) (8 : Int))) ≤ (IntKind.wrap .i64 (v.2.1 - r12_.1)))), (r12_.2.1, r14_)))))))))
 (.c (Int × (Bool × ((List Nat) × Y2))) (F_zbl v.1 v.2.1 r10_.1 k r9_) fun r15_ =>
 .g (!decide ((8 : Int) = 0)) <|
 .t (decide ((IntKind.wrap .i64 (r15_.1 - v.1)) < (IntKind.wrap .i64 (v.2.1 - r15_.1))))
 (.c ((List Nat) × Y2) (rec_ v.1 r15_.1 (IntKind.wrap .i64 (v.2.2.1 - (1 : Int))) k r15_.2.2) fun r16_ =>
 .l (.inl ((IntKind.wrap .i64 (r15_.1 + (1 : Int))), (v.2.1, ((IntKind.wrap .i64 (v.2.2.1 - (1 : Int))), ((decide ((IntKind.wrap .i64 (Int.tdiv (IntKind.wrap .i64 (v.2.1 - v.1)) (8 : Int))) ≤ (IntKind.wrap .i64 (r15_.1 - v.1)))), (r15_.2.1, r16_)))))))
 (.c ((List Nat) × Y2) (rec_ (IntKind.wrap .i64 (r15_.1 + (1 : Int))) v.2.1 (IntKind.wrap .i64 (v.2.2.1 - (1 : Int))) k r15_.2.2) fun r17_ =>
 .l (.inl (v.1, (r15_.1, ((IntKind.wrap .i64 (v.2.2.1 - (1 : Int))), ((decide ((IntKind.wrap .i64 (Int.tdiv (IntKind.wrap .i64 (v.2.1 - v.1)) (8 : Int))) ≤ (IntKind.wrap .i64 (v.2.1 - r15_.1)))), (r15_.2.1, r17_))))))))))
 (.t (decide ((0 : Int) < v.1))
 (.g (inR (IntKind.wrap .i64 (v.1 - (1 : Int))) (List.length r9_.1)) <|
 .g (decide ((Int.toNat (IntKind.wrap .i64 (v.1 - (1 : Int)))) < List.length r9_.1) && decide ((List.getD r9_.1 (Int.toNat (IntKind.wrap .i64 (v.1 - (1 : Int)))) 0) < List.length r9_.2)) <|
 .g (inR r10_.1 (List.length r9_.1)) <|
 .g (decide ((Int.toNat r10_.1) < List.length r9_.1) && decide ((List.getD r9_.1 (Int.toNat r10_.1) 0) < List.length r9_.2)) <|
 .c (Int) (k ((List.getD r9_.2 (List.getD r9_.1 (Int.toNat (IntKind.wrap .i64 (v.1 - (1 : Int)))) 0) ([] : Y1)), ((List.getD r9_.2 (List.getD r9_.1 (Int.toNat r10_.1) 0) ([] : Y1)), ()))) fun r18_ =>
 .t (!(decide (r18_ < (0 : Int))))
 (.f)
 (.c (Int × (Bool × ((List Nat) × Y2))) (F_zbl v.1 v.2.1 r10_.1 k r9_) fun r19_ =>
 .g (!decide ((8 : Int) = 0)) <|
 .t (decide ((IntKind.wrap .i64 (r19_.1 - v.1)) < (IntKind.wrap .i64 (v.2.1 - r19_.1))))
 (.c ((List Nat) × Y2) (rec_ v.1 r19_.1 (IntKind.wrap .i64 (v.2.2.1 - (1 : Int))) k r19_.2.2) fun r20_ =>
 .l (.inl ((IntKind.wrap .i64 (r19_.1 + (1 : Int))), (v.2.1, ((IntKind.wrap .i64 (v.2.2.1 - (1 : Int))), ((decide ((IntKind.wrap .i64 (Int.tdiv (IntKind.wrap .i64 (v.2.1 - v.1)) (8 : Int))) ≤ (IntKind.wrap .i64 (r19_.1 - v.1)))), (r19_.2.1, r20_)))))))
 (.c ((List Nat) × Y2) (rec_ (IntKind.wrap .i64 (r19_.1 + (1 : Int))) v.2.1 (IntKind.wrap .i64 (v.2.2.1 - (1 : Int))) k r19_.2.2) fun r21_ =>
 .l (.inl (v.1, (r19_.1, ((IntKind.wrap .i64 (v.2.2.1 - (1 : Int))), ((decide ((IntKind.wrap .i64 (Int.tdiv (IntKind.wrap .i64 (v.2.1 - v.1)) (8 : Int))) ≤ (IntKind.wrap .i64 (v.2.1 - r19_.1)))), (r19_.2.1, r21_)))))))))
 (.c (Int × (Bool × ((List Nat) × Y2))) (F_zbl v.1 v.2.1 r10_.1 k r9_) fun r22_ =>
 .g (!decide ((8 : Int) = 0)) <|
 .t (decide ((IntKind.wrap .i64 (r22_.1 - v.1)) < (IntKind.wrap .i64 (v.2.1 - r22_.1))))
 (.c ((List Nat) × Y2) (rec_ v.1 r22_.1 (IntKind.wrap .i64 (v.2.2.1 - (1 : Int))) k r22_.2.2) fun r23_ =>
 .l (.inl ((IntKind.wrap .i64 (r22_.1 + (1 : Int))), (v.2.1, ((IntKind.wrap .i64 (v.2.2.1 - (1 : Int))), ((decide ((IntKind.wrap .i64 (Int.tdiv (IntKind.wrap .i64 (v.2.1 - v.1)) (8 : Int))) ≤ (IntKind.wrap .i64 (r22_.1 - v.1)))), (r22_.2.1, r23_)))))))
 (.c ((List Nat) × Y2) (rec_ (IntKind.wrap .i64 (r22_.1 + (1 : Int))) v.2.1 (IntKind.wrap .i64 (v.2.2.1 - (1 : Int))) k r22_.2.2) fun r24_ =>
 .l (.inl (v.1, (r22_.1, ((IntKind.wrap .i64 (v.2.2.1 - (1 : Int))), ((decide ((IntKind.wrap .i64 (Int.tdiv (IntKind.wrap .i64 (v.2.1 - v.1)) (8 : Int))) ≤ (IntKind.wrap .i64 (v.2.1 - r22_.1)))), (r22_.2.1, r24_))))))))))
 (.t (decide ((0 : Int) < v.1))
 (.g (inR (IntKind.wrap .i64 (v.1 - (1 : Int))) (List.length r9_.1)) <|
 .g (decide ((Int.toNat (IntKind.wrap .i64 (v.1 - (1 : Int)))) < List.length r9_.1) && decide ((List.getD r9_.1 (Int.toNat (IntKind.wrap .i64 (v.1 - (1 : Int)))) 0) < List.length r9_.2)) <|
 .g (inR r10_.1 (List.length r9_.1)) <|
 .g (decide ((Int.toNat r10_.1) < List.length r9_.1) && decide ((List.getD r9_.1 (Int.toNat r10_.1) 0) < List.length r9_.2)) <|
 .c (Int) (k ((List.getD r9_.2 (List.getD r9_.1 (Int.toNat (IntKind.wrap .i64 (v.1 - (1 : Int)))) 0) ([] : Y1)), ((List.getD r9_.2 (List.getD r9_.1 (Int.toNat r10_.1) 0) ([] : Y1)), ()))) fun r25_ =>
 .t (!(decide (r25_ < (0 : Int))))
 (.f)
 (.c (Int × (Bool × ((List Nat) × Y2))) (F_zbl v.1 v.2.1 r10_.1 k r9_) fun r26_ =>
 .g (!decide ((8 : Int) = 0)) <|
 .t (decide ((IntKind.wrap .i64 (r26_.1 - v.1)) < (IntKind.wrap .i64 (v.2.1 - r26_.1))))
 (.c ((List Nat) × Y2) (rec_ v.1 r26_.1 (IntKind.wrap .i64 (v.2.2.1 - (1 : Int))) k r26_.2.2) fun r27_ =>
 .l (.inl ((IntKind.wrap .i64 (r26_.1 + (1 : Int))), (v.2.1, ((IntKind.wrap .i64 (v.2.2.1 - (1 : Int))), ((decide ((IntKind.wrap .i64 (Int.tdiv (IntKind.wrap .i64 (v.2.1 - v.1)) (8 : Int))) ≤ (IntKind.wrap .i64 (r26_.1 - v.1)))), (r26_.2.1, r27_)))))))
 (.c ((List Nat) × Y2) (rec_ (IntKind.wrap .i64 (r26_.1 + (1 : Int))) v.2.1 (IntKind.wrap .i64 (v.2.2.1 - (1 : Int))) k r26_.2.2) fun r28_ =>
 .l (.inl (v.1, (r26_.1, ((IntKind.wrap .i64 (v.2.2.1 - (1 : Int))), ((decide ((IntKind.wrap .i64 (Int.tdiv (IntKind.wrap .i64 (v.2.1 - v.1)) (8 : Int))) ≤ (IntKind.wrap .i64 (v.2.1 - r26_.1)))), (r26_.2.1, r28_)))))))))
 (.c (Int × (Bool × ((List Nat) × Y2))) (F_zbl v.1 v.2.1 r10_.1 k r9_) fun r29_ =>
 .g (!decide ((8 : Int) = 0)) <|
 .t (decide ((IntKind.wrap .i64 (r29_.1 - v.1)) < (IntKind.wrap .i64 (v.2.1 - r29_.1))))
 (.c ((List Nat) × Y2) (rec_ v.1 r29_.1 (IntKind.wrap .i64 (v.2.2.1 - (1 : Int))) k r29_.2.2) fun r30_ =>
 .l (.inl ((IntKind.wrap .i64 (r29_.1 + (1 : Int))), (v.2.1, ((IntKind.wrap .i64 (v.2.2.1 - (1 : Int))), ((decide ((IntKind.wrap .i64 (Int.tdiv (IntKind.wrap .i64 (v.2.1 - v.1)) (8 : Int))) ≤ (IntKind.wrap .i64 (r29_.1 - v.1)))), (r29_.2.1, r30_)))))))
 (.c ((List Nat) × Y2) (rec_ (IntKind.wrap .i64 (r29_.1 + (1 : Int))) v.2.1 (IntKind.wrap .i64 (v.2.2.1 - (1 : Int))) k r29_.2.2) fun r31_ =>
 .l (.inl (v.1, (r29_.1, ((IntKind.wrap .i64 (v.2.2.1 - (1 : Int))), ((decide ((IntKind.wrap .i64 (Int.tdiv (IntKind.wrap .i64 (v.2.1 - v.1)) (8 : Int))) ≤ (IntKind.wrap .i64 (v.2.1 - r29_.1)))), (r29_.2.1, r31_)))))))))))
 (.c (Int × Int) (F_zba (permL v.2.2.2.2.2.1 v.2.2.2.2.2.2) v.1 v.2.1 k) fun r32_ =>
 .t (r32_.2 == (2 : Int))
 (.f)
 (.t v.2.2.2.1
 (.t v.2.2.2.2.1
 (.t (r32_.2 == (1 : Int))
 (.f)
 (.t (decide ((0 : Int) < v.1))
 (.g (inR (IntKind.wrap .i64 (v.1 - (1 : Int))) (List.length v.2.2.2.2.2.1)) <|
 .g (decide ((Int.toNat (IntKind.wrap .i64 (v.1 - (1 : Int)))) < List.length v.2.2.2.2.2.1) && decide ((List.getD v.2.2.2.2.2.1 (Int.toNat (IntKind.wrap .i64 (v.1 - (1 : Int)))) 0) < List.length v.2.2.2.2.2.2)) <|
 .g (inR r32_.1 (List.length v.2.2.2.2.2.1)) <|
 .g (decide ((Int.toNat r32_.1) < List.length v.2.2.2.2.2.1) && decide ((List.getD v.2.2.2.2.2.1 (Int.toNat r32_.1) 0) < List.length v.2.2.2.2.2.2)) <|
 .c (Int) (k ((List.getD v.2.2.2.2.2.2 (List.getD v.2.2.2.2.2.1 (Int.toNat (IntKind.wrap .i64 (v.1 - (1 : Int)))) 0) ([] : Y1)), ((List.getD v.2.2.2.2.2.2 (List.getD v.2.2.2.2.2.1 (Int.toNat r32_.1) 0) ([] : Y1)), ()))) fun r33_ =>
 .t (!(decide (r33_ < (0 : Int))))
 (.f)
 (.c (Int × (Bool × ((List Nat) × Y2))) (F_zbl v.1 v.2.1 r32_.1 k v.2.2.2.2.2) fun r34_ =>
 .g (!decide ((8 : Int) = 0)) <|
 .t (decide ((IntKind.wrap .i64 (r34_.1 - v.1)) < (IntKind.wrap .i64 (v.2.1 - r34_.1))))
 (.c ((List Nat) × Y2) (rec_ v.1 r34_.1 v.2.2.1 k r34_.2.2) fun r35_ =>
 .l (.inl ((IntKind.wrap .i64 (r34_.1 + (1 : Int))), (v.2.1, (v.2.2.1, ((decide ((IntKind.wrap .i64 (Int.tdiv (IntKind.wrap .i64 (v.2.1 - v.1)) (8 : Int))) ≤ (IntKind.wrap .i64 (r34_.1 - v.1)))), (r34_.2.1, r35_)))))))
 (.c ((List Nat) × Y2) (rec_ (IntKind.wrap .i64 (r34_.1 + (1 : Int))) v.2.1 v.2.2.1 k r34_.2.2) fun r36_ =>
 .l (.inl (v.1, (r34_.1, (v.2.2.1, ((decide ((IntKind.wrap .i64 (Int.tdiv (IntKind.wrap .i64 (v.2.1 - v.1)) (8 : Int))) ≤ (IntKind.wrap .i64 (v.2.1 - r34_.1)))), (r34_.2.1, r36_)))))))))
 (.c (Int × (Bool × ((List Nat) × Y2))) (F_zbl v.1 v.2.1 r32_.1 k v.2.2.2.2.2) fun r37_ =>
 .g (!decide ((8 : Int) = 0)) <|
 .t (decide ((IntKind.wrap .i64 (r37_.1 - v.1)) < (IntKind.wrap .i64 (v.2.1 - r37_.1))))
 (.c ((List Nat) × Y2) (rec_ v.1 r37_.1 v.2.2.1 k r37_.2.2) fun r38_ =>
 .l (.inl ((IntKind.wrap .i64 (r37_.1 + (1 : Int))), (v.2.1, (v.2.2.1, ((decide ((IntKind.wrap .i64 (Int.tdiv (IntKind.wrap .i64 (v.2.1 - v.1)) (8 : Int))) ≤ (IntKind.wrap .i64 (r37_.1 - v.1)))), (r37_.2.1, r38_)))))))
 (.c ((List Nat) × Y2) (rec_ (IntKind.wrap .i64 (r37_.1 + (1 : Int))) v.2.1 v.2.2.1 k r37_.2.2) fun r39_ =>
 .l (.inl (v.1, (r37_.1, (v.2.2.1, ((decide ((IntKind.wrap .i64 (Int.tdiv (IntKind.wrap .i64 (v.2.1 - v.1)) (8 : Int))) ≤ (IntKind.wrap .i64 (v.2.1 - r37_.1)))), (r37_.2.1, r39_))))))))))
 (.t (decide ((0 : Int) < v.1))
 (.g (inR (IntKind.wrap .i64 (v.1 - (1 : Int))) (List.length v.2.2.2.2.2.1)) <|
 .g (decide ((Int.toNat (IntKind.wrap .i64 (v.1 - (1 : Int)))) < List.length v.2.2.2.2.2.1) && decide ((List.getD v.2.2.2.2.2.1 (Int.toNat (IntKind.wrap .i64 (v.1 - (1 : Int)))) 0) < List.length v.2.2.2.2.2.2)) <|
 .g (inR r32_.1 (List.length v.2.2.2.2.2.1)) <|
 .g (decide ((Int.toNat r32_.1) < List.length v.2.2.2.2.2.1) && decide ((List.getD v.2.2.2.2.2.1 (Int.toNat r32_.1) 0) < List.length v.2.2.2.2.2.2)) <|
 .c (Int) (k ((List.getD v.2.2.2.2.2.2 (List.getD v.2.2.2.2.2.1 (Int.toNat (IntKind.wrap .i64 (v.1 - (1 : Int)))) 0) ([] : Y1)), ((List.getD v.2.2.2.2.2.2 (List.getD v.2.2.2.2.2.1 (Int.toNat r32_.1) 0) ([] : Y1)), ()))) fun r40_ =>
 .t (!(decide (r40_ < (0 : Int))))
 (.f)
 (.c (Int × (Bool × ((List Nat) × Y2))) (F_zbl v.1 v.2.1 r32_.1 k v.2.2.2.2.2) fun r41_ =>
 .g (!decide ((8 : Int) = 0)) <|
 .t (decide ((IntKind.wrap .i64 (r41_.1 - v.1)) < (IntKind.wrap .i64 (v.2.1 - r41_.1))))
 (.c ((List Nat) × Y2) (rec_ v.1 r41_.1 v.2.2.1 k r41_.2.2) fun r42_ =>
 .l (.inl ((IntKind.wrap .i64 (r41_.1 + (1 : Int))), (v.2.1, (v.2.2.1, ((decide ((IntKind.wrap .i64 (Int.tdiv (IntKind.wrap .i64 (v.2.1 - v.1)) (8 : Int))) ≤ (IntKind.wrap .i64 (r41_.1 - v.1)))), (r41_.2.1, r42_)))))))
 (.c ((List Nat) × Y2) (rec_ (IntKind.wrap .i64 (r41_.1 + (1 : Int))) v.2.1 v.2.2.1 k r41_.2.2) fun r43_ =>
 .l (.inl (v.1, (r41_.1, (v.2.2.1, ((decide ((IntKind.wrap .i64 (Int.tdiv (IntKind.wrap .i64 (v.2.1 - v.1)) (8 : Int))) ≤ (IntKind.wrap .i64 (v.2.1 - r41_.1)))), (r41_.2.1, r43_)))))))))
 (.c (Int × (Bool × ((List Nat) × Y2))) (F_zbl v.1 v.2.1 r32_.1 k v.2.2.2.2.2) fun r44_ =>
 .g (!decide ((8 : Int) = 0)) <|
 .t (decide ((IntKind.wrap .i64 (r44_.1 - v.1)) < (IntKind.wrap .i64 (v.2.1 - r44_.1))))
 (.c ((List Nat) × Y2) (rec_ v.1 r44_.1 v.2.2.1 k r44_.2.2) fun r45_ =>
 .l (.inl ((IntKind.wrap .i64 (r44_.1 + (1 : Int))), (v.2.1, (v.2.2.1, ((decide ((IntKind.wrap .i64 (Int.tdiv (IntKind.wrap .i64 (v.2.1 - v.1)) (8 : Int))) ≤ (IntKind.wrap .i64 (r44_.1 - v.1)))), (r44_.2.1, r45_)))))))
 (.c ((List Nat) × Y2) (rec_ (IntKind.wrap .i64 (r44_.1 + (1 : Int))) v.2.1 v.2.2.1 k r44_.2.2) fun r46_ =>
 .l (.inl (v.1, (r44_.1, (v.2.2.1, ((decide ((IntKind.wrap .i64 (Int.tdiv (IntKind.wrap .i64 (v.2.1 - v.1)) (8 : Int))) ≤ (IntKind.wrap .i64 (v.2.1 - r44_.1)))), (r44_.2.1, r46_))))))))))
 (.t (decide ((0 : Int) < v.1))
 (.g (inR (IntKind.wrap .i64 (v.1 - (1 : Int))) (List.length v.2.2.2.2.2.1)) <|
 .g (decide ((Int.toNat (IntKind.wrap .i64 (v.1 - (1 : Int)))) < List.length v.2.2.2.2.2.1) && decide ((List.getD v.2.2.2.2.2.1 (Int.toNat (IntKind.wrap .i64 (v.1 - (1 : Int)))) 0) < List.length v.2.2.2.2.2.2)) <|
 .g (inR r32_.1 (List.length v.2.2.2.2.2.1)) <|
 .g (decide ((Int.toNat r32_.1) < List.length v.2.2.2.2.2.1) && decide ((List.getD v.2.2.2.2.2.1 (Int.toNat r32_.1) 0) < List.length v.2.2.2.2.2.2)) <|
 .c (Int) (k ((List.getD v.2.2.2.2.2.2 (List.getD v.2.2.2.2.2.1 (Int.toNat (IntKind.wrap .i64 (v.1 - (1 : Int)))) 0) ([] : Y1)), ((List.getD v.2.2.2.2.2.2 (List.getD v.2.2.2.2.2.1 (Int.toNat r32_.1) 0) ([] : Y1)), ()))) fun r47_ =>
 .t (!(decide (r47_ < (0 : Int))))
 (.f)
 (.c (Int × (Bool × ((List Nat) × Y2))) (F_zbl v.1 v.2.1 r32_.1 k v.2.2.2.2.2) fun r48_ =>
 .g (!decide ((8 : Int) = 0)) <|
 .t (decide ((IntKind.wrap .i64 (r48_.1 - v.1)) < (IntKind.wrap .i64 (v.2.1 - r48_.1))))
 (.c ((List Nat) × Y2) (rec_ v.1 r48_.1 v.2.2.1 k r48_.2.2) fun r49_ =>
 .l (.inl ((IntKind.wrap .i64 (r48_.1 + (1 : Int))), (v.2.1, (v.2.2.1, ((decide ((IntKind.wrap .i64 (Int.tdiv (IntKind.wrap .i64 (v.2.1 - v.1)) (8 : Int))) ≤ (IntKind.wrap .i64 (r48_.1 - v.1)))), (r48_.2.1, r49_)))))))
 (.c ((List Nat) × Y2) (rec_ (IntKind.wrap .i64 (r48_.1 + (1 : Int))) v.2.1 v.2.2.1 k r48_.2.2) fun r50_ =>
 .l (.inl (v.1, (r48_.1, (v.2.2.1, ((decide ((IntKind.wrap .i64 (Int.tdiv (IntKind.wrap .i64 (v.2.1 - v.1)) (8 : Int))) ≤ (IntKind.wrap .i64 (v.2.1 - r48_.1)))), (r48_.2.1, r50_)))))))))
 (.c (Int × (Bool × ((List Nat) × Y2))) (F_zbl v.1 v.2.1 r32_.1 k v.2.2.2.2.2) fun r51_ =>
 .g (!decide ((8 : Int) = 0)) <|
 .t (decide ((IntKind.wrap .i64 (r51_.1 - v.1)) < (IntKind.wrap .i64 (v.2.1 - r51_.1))))
 (.c ((List Nat) × Y2) (rec_ v.1 r51_.1 v.2.2.1 k r51_.2.2) fun r52_ =>
 .l (.inl ((IntKind.wrap .i64 (r51_.1 + (1 : Int))), (v.2.1, (v.2.2.1, ((decide ((IntKind.wrap .i64 (Int.tdiv (IntKind.wrap .i64 (v.2.1 - v.1)) (8 : Int))) ≤ (IntKind.wrap .i64 (r51_.1 - v.1)))), (r51_.2.1, r52_)))))))
 (.c ((List Nat) × Y2) (rec_ (IntKind.wrap .i64 (r51_.1 + (1 : Int))) v.2.1 v.2.2.1 k r51_.2.2) fun r53_ =>
 .l (.inl (v.1, (r51_.1, (v.2.2.1, ((decide ((IntKind.wrap .i64 (Int.tdiv (IntKind.wrap .i64 (v.2.1 - v.1)) (8 : Int))) ≤ (IntKind.wrap .i64 (v.2.1 - r51_.1)))), (r51_.2.1, r53_)))))))))))))
noncomputable def L_zbn_0 (rec_ : (Int) → (Int) → (Int) → ((HL [y1, y1] → Option (Int))) → ((List Nat) × Y2) → Option ((List Nat) × Y2)) (k : (HL [y1, y1] → Option (Int))) (v : Int × (Int × (Int × (Bool × (Bool × ((List Nat) × Y2)))))) : Option ((List Nat) × Y2) := iter (fun v => (S_zbn_0 rec_ k v).ev) v
noncomputable def DL_zbn_0 (rec_ : (Int) → (Int) → (Int) → ((HL [y1, y1] → Option (Int))) → ((List Nat) × Y2) → Option ((List Nat) × Y2)) : LD where
 head := { acts := [], S := { slots := [0, 1, 2, 3, 4, 10, 11], sh := (.cons (.arr 64) (.cons (.dat yi) (.cons (.dat yi) (.cons (.dat yi) (.cons (.clo [y1, y1] yi) (.cons (.dat .bool) (.cons (.dat .bool) .nil))))))), obs := [(64, .perm 22 3 yi)] } }
 exits := []
 rets := { acts := [], S := { slots := [0], sh := (.cons (.arr 64) .nil), obs := [(64, .perm 22 3 yi)] } }
 K := (HL [y1, y1] → Option (Int))
 V := Int × (Int × (Int × (Bool × (Bool × ((List Nat) × Y2)))))
 R := (List Nat) × Y2
 join := fun k v => (((), (v.1, (v.2.1, (v.2.2.1, (k, (v.2.2.2.1, (v.2.2.2.2.1, ()))))))), (v.2.2.2.2.2, ()))
 sk := fun t => t.1.2.2.2.2.1
 sv := fun t => (t.1.2.1, (t.1.2.2.1, (t.1.2.2.2.1, (t.1.2.2.2.2.2.1, (t.1.2.2.2.2.2.2.1, t.2.1)))))
 step := S_zbn_0 rec_
 leaf := fun _ r => .l (.ret (mkSt ({ slots := [0], sh := (.cons (.arr 64) .nil), obs := [(64, .perm 22 3 yi)] }) (((), ()), (r, ()))))
noncomputable def T_zbn (rec_ : (Int) → (Int) → (Int) → ((HL [y1, y1] → Option (Int))) → ((List Nat) × Y2) → Option ((List Nat) × Y2)) (a2_ : Int) (a3_ : Int) (a4_ : Int) (a5_ : (HL [y1, y1] → Option (Int))) (a1_ : (List Nat) × Y2) : Tr ((List Nat) × Y2) :=
 .c ((List Nat) × Y2) (L_zbn_0 rec_ a5_ (a2_, (a3_, (a4_, (true, (true, a1_)))))) fun r55_ =>
 .l r55_
noncomputable def F_zbn : Nat → (Int) → (Int) → (Int) → ((HL [y1, y1] → Option (Int))) → ((List Nat) × Y2) → Option ((List Nat) × Y2)
 | 0 => fun _ _ _ _ _ => none
 | n + 1 => fun a2_ a3_ a4_ a5_ a1_ => (T_zbn (F_zbn n) a2_ a3_ a4_ a5_ a1_).ev
noncomputable def A_zbn : Sh := (.cons (.arr 64) (.cons (.dat yi) (.cons (.dat yi) (.cons (.dat yi) (.cons (.clo [y1, y1] yi) .nil)))))
noncomputable def I_zbn : List (Nat × OSh) := [(64, .perm 22 3 yi)]
noncomputable def K_zbn : RetK := { acts := [], res := [], sh := .nil, obs := [(64, .perm 22 3 yi)], pins := [(0, 0, 64)] }
noncomputable def Dr_zbn (rec_ : (Int) → (Int) → (Int) → ((HL [y1, y1] → Option (Int))) → ((List Nat) × Y2) → Option ((List Nat) × Y2)) : FD where
 A := A_zbn
 ins := I_zbn
 lend := [.arg 0]
 R := (List Nat) × Y2
 F := fun x => rec_ x.1.2.1 x.1.2.2.1 x.1.2.2.2.1 x.1.2.2.2.2.1 x.2.1
 emb := fun r => ([], [(64, .perm false 22 3 yi r.1 r.2)])
noncomputable def D_zbn (n : Nat) : FD := Dr_zbn (F_zbn n)
noncomputable def E_zbn (rec_ : (Int) → (Int) → (Int) → ((HL [y1, y1] → Option (Int))) → ((List Nat) × Y2) → Option ((List Nat) × Y2)) : Env := envOf [(86, D_zbc), (88, D_zay), (89, D_zba), (93, D_zbl), (76, Dr_zbn rec_)]
noncomputable def Z_zbn : Nat → Nat → List Nat := fun _ _ => []
noncomputable def O_zbn (rec_ : (Int) → (Int) → (Int) → ((HL [y1, y1] → Option (Int))) → ((List Nat) × Y2) → Option ((List Nat) × Y2)) : List (Nat × LD) := [(0, DL_zbn_0 rec_)]
noncomputable def C_zbn : Code := (f76.body).getD .skip
noncomputable def T_zau (a2_ : (HL [y1, y1] → Option (Int))) (a1_ : (List Nat) × Y2) : Tr ((List Nat) × Y2) :=
 .c (Int) (F_zal (IntKind.wrap .u64 ((List.length a1_.1 : Nat) : Int))) fun r1_ =>
 .c ((List Nat) × Y2) (F_zbn 1000000 (0 : Int) ((List.length a1_.1 : Nat) : Int) r1_ a2_ a1_) fun r2_ =>
 .l r2_
noncomputable def F_zau (a2_ : (HL [y1, y1] → Option (Int))) (a1_ : (List Nat) × Y2) : Option ((List Nat) × Y2) := (T_zau a2_ a1_).ev
noncomputable def A_zau : Sh := (.cons (.arr 64) (.cons (.clo [y1, y1] yi) .nil))
noncomputable def I_zau : List (Nat × OSh) := [(64, .perm 22 3 yi)]
noncomputable def K_zau : RetK := { acts := [], res := [], sh := .nil, obs := [(64, .perm 22 3 yi)], pins := [(0, 0, 64)] }
noncomputable def D_zau : FD := ⟨A_zau, I_zau, [.arg 0], (List Nat) × Y2, fun x => F_zau x.1.2.1 x.2.1, fun r => ([], [(64, .perm false 22 3 yi r.1 r.2)])⟩
noncomputable def E_zau : Env := envOf [(58, D_zal), (76, D_zbn 1000000)]
noncomputable def Z_zau : Nat → Nat → List Nat := fun _ _ => []
noncomputable def O_zau : List (Nat × LD) := []
noncomputable def C_zau : Code := (f61.body).getD .skip
noncomputable def T_za (a1_ : Int) (a2_ : Int) : Tr (Int) :=
 .c (Bool) (F_zd a1_) fun r1_ =>
 .c (Bool) (F_zd a2_) fun r2_ =>
 .t r1_
 (.t r2_
 (.l (0 : Int))
 (.l (-1 : Int)))
 (.t r2_
 (.l (1 : Int))
 (.t (decide (a1_ < a2_))
 (.l (-1 : Int))
 (.t (decide (a2_ < a1_))
 (.l (1 : Int))
 (.l (0 : Int)))))
noncomputable def F_za (a1_ : Int) (a2_ : Int) : Option (Int) := (T_za a1_ a2_).ev
noncomputable def A_za : Sh := (.cons (.dat yi) (.cons (.dat yi) .nil))
noncomputable def I_za : List (Nat × OSh) := []
noncomputable def K_za : RetK := { acts := [], res := [.tmp 4], sh := (.cons (.dat yi) .nil), obs := [], pins := [] }
noncomputable def D_za : FD := ⟨A_za, I_za, [], Int, fun x => F_za x.1.1 x.1.2.1, fun r => ([.dat yi r], [])⟩
noncomputable def E_za : Env := envOf [(85, D_zd)]
noncomputable def Z_za : Nat → Nat → List Nat := fun _ _ => []
noncomputable def O_za : List (Nat × LD) := []
noncomputable def C_za : Code := (f78.body).getD .skip
noncomputable def S_zao_0 (k : Y1 × (Y1 × (Y1 × Int))) (v : Int) : Tr ((Int) ⊕ ((Unit) ⊕ (Int))) :=
 .t (decide (v < k.2.2.2))
 (.g (inR v (List.length k.2.2.1)) <|
 .t (decide (((List.length k.2.1 : Nat) : Int) ≤ v))
 (.l (.inr (.inr (1 : Int))))
 (.g (inR v (List.length k.2.1)) <|
 .c (Int) (F_za (List.getD k.2.2.1 (Int.toNat v) (0 : Int)) (List.getD k.2.1 (Int.toNat v) (0 : Int))) fun r6_ =>
 .t (r6_ != (0 : Int))
 (.l (.inr (.inr r6_)))
 (.l (.inl (IntKind.wrap .i64 (v + (1 : Int)))))))
 (.l (.inr (.inl ())))
noncomputable def L_zao_0 (k : Y1 × (Y1 × (Y1 × Int))) (v : Int) : Option ((Unit) ⊕ (Int)) := iter (fun v => (S_zao_0 k v).ev) v
noncomputable def DL_zao_0 : LD := ⟨(yh [0, 1, 9, 10, 11] (.cons (.dat y1) (.cons (.dat y1) (.cons (.dat y1) (.cons (.dat yi) (.cons (.dat yi) .nil)))))), [(0, (yh [0, 1] (.cons (.dat y1) (.cons (.dat y1) .nil))))], (yh [4] (.cons (.dat yi) .nil)), Y1 × (Y1 × (Y1 × Int)), Int, (Unit) ⊕ (Int), fun k v => ((k.1, (k.2.1, (k.2.2.1, (k.2.2.2, (v, ()))))), ()), fun t => (t.1.1, (t.1.2.1, (t.1.2.2.1, t.1.2.2.2.1))), fun t => t.1.2.2.2.2.1, S_zao_0, fun k r => .s (Unit) (Int) r (fun _ => .l (.exit 0 (mkSt ((ys [0, 1] (.cons (.dat y1) (.cons (.dat y1) .nil)))) ((k.1, (k.2.1, ())), ())))) (fun b => .l (.ret (mkSt ((ys [4] (.cons (.dat yi) .nil))) ((b, ()), ()))))⟩
noncomputable def T_zao (a1_ : Y1) (a2_ : Y1) : Tr (Int) :=
 .c ((Unit) ⊕ (Int)) (L_zao_0 (a1_, (a2_, (a1_, ((List.length a1_ : Nat) : Int)))) (0 : Int)) fun r10_ =>
 .s (Unit) (Int) r10_
 (fun _ => .t (decide (((List.length a1_ : Nat) : Int) < ((List.length a2_ : Nat) : Int)))
 (.l (-1 : Int))
 (.l (0 : Int)))
 (fun r12_ => .l r12_)
noncomputable def F_zao (a1_ : Y1) (a2_ : Y1) : Option (Int) := (T_zao a1_ a2_).ev
noncomputable def A_zao : Sh := (.cons (.dat y1) (.cons (.dat y1) .nil))
noncomputable def I_zao : List (Nat × OSh) := []
noncomputable def K_zao : RetK := { acts := [], res := [.tmp 4], sh := (.cons (.dat yi) .nil), obs := [], pins := [] }
noncomputable def D_zao : FD := ⟨A_zao, I_zao, [], Int, fun x => F_zao x.1.1 x.1.2.1, fun r => ([.dat yi r], [])⟩
noncomputable def E_zao : Env := envOf [(78, D_za)]
noncomputable def Z_zao : Nat → Nat → List Nat := fun _ _ => []
noncomputable def O_zao : List (Nat × LD) := [(0, DL_zao_0)]
noncomputable def C_zao : Code := (f79.body).getD .skip
noncomputable def S_zc_0 (k : Int × (Y1 × Int)) (v : Int) : Tr ((Int) ⊕ ((Unit) ⊕ (Int))) :=
 .t (decide (v < k.2.2))
 (.g (inR v (List.length k.2.1)) <|
 .t ((List.getD k.2.1 (Int.toNat v) (0 : Int)) != k.1)
 (.l (.inr (.inr (List.getD k.2.1 (Int.toNat v) (0 : Int)))))
 (.l (.inl (IntKind.wrap .i64 (v + (1 : Int))))))
 (.l (.inr (.inl ())))
noncomputable def L_zc_0 (k : Int × (Y1 × Int)) (v : Int) : Option ((Unit) ⊕ (Int)) := iter (fun v => (S_zc_0 k v).ev) v
noncomputable def DL_zc_0 : LD := ⟨(yh [3, 6, 7, 8] (.cons (.dat yi) (.cons (.dat y1) (.cons (.dat yi) (.cons (.dat yi) .nil))))), [(0, (yh [3] (.cons (.dat yi) .nil)))], (yh [2] (.cons (.dat yi) .nil)), Int × (Y1 × Int), Int, (Unit) ⊕ (Int), fun k v => ((k.1, (k.2.1, (k.2.2, (v, ())))), ()), fun t => (t.1.1, (t.1.2.1, t.1.2.2.1)), fun t => t.1.2.2.2.1, S_zc_0, fun k r => .s (Unit) (Int) r (fun _ => .l (.exit 0 (mkSt ((ys [3] (.cons (.dat yi) .nil))) ((k.1, ()), ())))) (fun b => .l (.ret (mkSt ((ys [2] (.cons (.dat yi) .nil))) ((b, ()), ()))))⟩
noncomputable def T_zc (a1_ : Y1) : Tr (Int) :=
 .c ((Unit) ⊕ (Int)) (L_zc_0 ((0 : Int), (a1_, ((List.length a1_ : Nat) : Int))) (0 : Int)) fun r7_ =>
 .s (Unit) (Int) r7_
 (fun _ => .l (0 : Int))
 (fun r9_ => .l r9_)
noncomputable def F_zc (a1_ : Y1) : Option (Int) := (T_zc a1_).ev
noncomputable def A_zc : Sh := (.cons (.dat y1) .nil)
noncomputable def I_zc : List (Nat × OSh) := []
noncomputable def K_zc : RetK := { acts := [], res := [.tmp 2], sh := (.cons (.dat yi) .nil), obs := [], pins := [] }
noncomputable def D_zc : FD := ⟨A_zc, I_zc, [], Int, fun x => F_zc x.1.1, fun r => ([.dat yi r], [])⟩
noncomputable def E_zc : Env := envOf []
noncomputable def Z_zc : Nat → Nat → List Nat := fun _ _ => []
noncomputable def O_zc : List (Nat × LD) := [(0, DL_zc_0)]
noncomputable def C_zc : Code := (f77.body).getD .skip
noncomputable def T_zu (a1_ : Y1) (a2_ : Y1) : Tr (Int) :=
 .c (Int) (F_za ((List.length a1_ : Nat) : Int) ((List.length a2_ : Nat) : Int)) fun r1_ =>
 .c (Int) (F_zao a1_ a2_) fun r2_ =>
 .c (Int) (F_zc ([r1_, r2_] : Y1)) fun r3_ =>
 .l r3_
noncomputable def F_zu (a1_ : Y1) (a2_ : Y1) : Option (Int) := (T_zu a1_ a2_).ev
noncomputable def A_zu : Sh := (.cons (.dat y1) (.cons (.dat y1) .nil))
noncomputable def I_zu : List (Nat × OSh) := []
noncomputable def K_zu : RetK := { acts := [], res := [.tmp 4], sh := (.cons (.dat yi) .nil), obs := [], pins := [] }
noncomputable def D_zu : FD := ⟨A_zu, I_zu, [], Int, fun x => F_zu x.1.1 x.1.2.1, fun r => ([.dat yi r], [])⟩
noncomputable def E_zu : Env := envOf [(78, D_za), (79, D_zao), (77, D_zc)]
noncomputable def Z_zu : Nat → Nat → List Nat := fun _ _ => []
noncomputable def O_zu : List (Nat × LD) := []
noncomputable def C_zu : Code := (f62.body).getD .skip
noncomputable def S_zy_0 (k : Int) (v : Int × Y2) : Tr ((Int × Y2) ⊕ Y2) :=
 .g (decide ((0 : Int) ≤ k)) <|
 .t (decide (v.1 < (IntKind.wrap .u64 ((1 : Int) * 2 ^ (min (Int.toNat k) (IntKind.bits .u64))))))
 (.c Y1 (F_zs v.1) fun r4_ =>
 .g (decide ((List.length v.2 + 1) * 24 ≤ 140737488355328)) <|
 .l (.inl ((IntKind.wrap .u64 (v.1 + (1 : Int))), (List.set (v.2 ++ [[]]) (List.length v.2) r4_))))
 (.l (.inr v.2))
noncomputable def L_zy_0 (k : Int) (v : Int × Y2) : Option Y2 := iter (fun v => (S_zy_0 k v).ev) v
noncomputable def DL_zy_0 : LD := ⟨{ acts := [], S := { slots := [0, 3, 4], sh := (.cons (.dat yi) (.cons (.arr 5) (.cons (.dat (.int .u64)) .nil))), obs := [(5, .rows 22 3 yi)] } }, [(0, { acts := [], S := { slots := [3], sh := (.cons (.arr 5) .nil), obs := [(5, .rows 22 3 yi)] } })], (yh [] .nil), Int, Int × Y2, List Y1, fun k v => ((k, ((), (v.1, ()))), (v.2, ())), fun t => t.1.1, fun t => (t.1.2.2.1, t.2.1), S_zy_0, fun _ r => .l (.exit 0 (mkSt ({ slots := [3], sh := (.cons (.arr 5) .nil), obs := [(5, .rows 22 3 yi)] }) (((), ()), (r, ()))))⟩
noncomputable def T_zy (a1_ : Int) : Tr ((List Nat) × Y2) :=
 .c Y2 (L_zy_0 a1_ ((1 : Int), ([] : List Y1))) fun r6_ =>
 .c ((List Nat) × Y2) (F_zau (fun h7_ => Option.bind (F_zu h7_.1 h7_.2.1) fun y8_ => some y8_) ((List.range (List.length r6_)), r6_)) fun r9_ =>
 .l r9_
noncomputable def F_zy (a1_ : Int) : Option ((List Nat) × Y2) := (T_zy a1_).ev
noncomputable def A_zy : Sh := (.cons (.dat yi) .nil)
noncomputable def I_zy : List (Nat × OSh) := []
noncomputable def K_zy : RetK := { acts := [.ren 5 0], res := [.tmp 2], sh := (.cons (.arr 0) .nil), obs := [(0, .perm 22 3 yi)], pins := [] }
noncomputable def D_zy : FD := ⟨A_zy, I_zy, [], (List Nat) × Y2, fun x => F_zy x.1.1, fun r => ([.arr 0], [(0, .perm false 22 3 yi r.1 r.2)])⟩
noncomputable def E_zy : Env := envOf [(60, D_zs), (61, D_zau), (61, D_zau), (62, D_zu)]
noncomputable def Z_zy : Nat → Nat → List Nat := fun r i => match look [(1, [(0, [1000000])]), (6, [(1, [80000017])])] r with
 | some l => (look l i).getD []
 | none => []
noncomputable def O_zy : List (Nat × LD) := [(0, DL_zy_0)]
noncomputable def C_zy : Code := (f52.body).getD .skip
noncomputable def S_zar_0 (k : (HL [y1] → Option (Bool))) (v : Int × (Int × ((List Nat) × Y2))) : Tr ((Int × (Int × ((List Nat) × Y2))) ⊕ (Int × ((List Nat) × Y2))) :=
 .t (decide (v.2.1 < ((List.length v.2.2.1 : Nat) : Int)))
 (.g (inR v.2.1 (List.length v.2.2.1)) <|
 .g (decide ((Int.toNat v.2.1) < List.length v.2.2.1) && decide ((List.getD v.2.2.1 (Int.toNat v.2.1) 0) < List.length v.2.2.2)) <|
 .c (Bool) (k ((List.getD v.2.2.2 (List.getD v.2.2.1 (Int.toNat v.2.1) 0) ([] : Y1)), ())) fun r6_ =>
 .t (!r6_)
 (.g (inR v.1 (List.length v.2.2.1)) <|
 .g (decide ((Int.toNat v.1) < List.length v.2.2.1)) <|
 .l (.inl ((IntKind.wrap .i64 (v.1 + (1 : Int))), ((IntKind.wrap .i64 (v.2.1 + (1 : Int))), ((List.set v.2.2.1 (Int.toNat v.1) (List.getD v.2.2.1 (Int.toNat v.2.1) 0)), v.2.2.2)))))
 (.l (.inl (v.1, ((IntKind.wrap .i64 (v.2.1 + (1 : Int))), v.2.2)))))
 (.l (.inr (v.1, v.2.2)))
noncomputable def L_zar_0 (k : (HL [y1] → Option (Bool))) (v : Int × (Int × ((List Nat) × Y2))) : Option (Int × ((List Nat) × Y2)) := iter (fun v => (S_zar_0 k v).ev) v
noncomputable def DL_zar_0 : LD := ⟨{ acts := [], S := { slots := [0, 1, 5, 6], sh := (.cons (.arr 64) (.cons (.clo [y1] .bool) (.cons (.dat yi) (.cons (.dat yi) .nil)))), obs := [(64, .perm 22 3 yi)] } }, [(0, { acts := [], S := { slots := [0, 5], sh := (.cons (.arr 64) (.cons (.dat yi) .nil)), obs := [(64, .perm 22 3 yi)] } })], (yh [] .nil), (HL [y1] → Option (Bool)), Int × (Int × ((List Nat) × Y2)), Int × ((List Nat) × Y2), fun k v => (((), (k, (v.1, (v.2.1, ())))), (v.2.2, ())), fun t => t.1.2.1, fun t => (t.1.2.2.1, (t.1.2.2.2.1, t.2.1)), S_zar_0, fun _ r => .l (.exit 0 (mkSt ({ slots := [0, 5], sh := (.cons (.arr 64) (.cons (.dat yi) .nil)), obs := [(64, .perm 22 3 yi)] }) (((), (r.1, ())), (r.2, ()))))⟩
noncomputable def T_zar (a2_ : (HL [y1] → Option (Bool))) (a1_ : (List Nat) × Y2) : Tr ((List Nat) × Y2) :=
 .c (Int) (F_zas (permL a1_.1 a1_.2) a2_) fun r1_ =>
 .t (r1_ == (-1 : Int))
 (.l a1_)
 (.c (Int × ((List Nat) × Y2)) (L_zar_0 a2_ (r1_, ((IntKind.wrap .i64 (r1_ + (1 : Int))), a1_))) fun r9_ =>
 .g (decide ((0 : Int) ≤ r9_.1) && decide (r9_.1 ≤ ((List.length r9_.2.1 : Nat) : Int))) <|
 .g (decide ((0 : Int) ≤ r9_.1) && decide (r9_.1 ≤ ((List.length (List.take (Int.toNat r9_.1) r9_.2.1 ++ List.replicate (List.length r9_.2.1 - (Int.toNat r9_.1)) (List.length r9_.2.2)) : Nat) : Int))) <|
 .l ((List.take (Int.toNat r9_.1) (List.take (Int.toNat r9_.1) r9_.2.1 ++ List.replicate (List.length r9_.2.1 - (Int.toNat r9_.1)) (List.length r9_.2.2))), r9_.2.2))
noncomputable def F_zar (a2_ : (HL [y1] → Option (Bool))) (a1_ : (List Nat) × Y2) : Option ((List Nat) × Y2) := (T_zar a2_ a1_).ev
noncomputable def A_zar : Sh := (.cons (.arr 64) (.cons (.clo [y1] .bool) .nil))
noncomputable def I_zar : List (Nat × OSh) := [(64, .perm 22 3 yi)]
noncomputable def K_zar : RetK := { acts := [.ren 64 0], res := [.tmp 4], sh := (.cons (.arr 0) .nil), obs := [(0, .perm 22 3 yi)], pins := [], gone := [64] }
noncomputable def D_zar : FD := ⟨A_zar, I_zar, [.arg 0], (List Nat) × Y2, fun x => F_zar x.1.2.1 x.2.1, fun r => ([.arr 0], [(0, .perm false 22 3 yi r.1 r.2), (64, .spent)])⟩
noncomputable def E_zar : Env := envOf [(50, D_zas)]
noncomputable def Z_zar : Nat → Nat → List Nat := fun _ _ => []
noncomputable def O_zar : List (Nat × LD) := [(0, DL_zar_0)]
noncomputable def C_zar : Code := (f51.body).getD .skip
noncomputable def T_zg (a1_ : Y1) (a2_ : Int) : Tr (Bool) :=
 .l (((List.length a1_ : Nat) : Int) != a2_)
noncomputable def F_zg (a1_ : Y1) (a2_ : Int) : Option (Bool) := (T_zg a1_ a2_).ev
noncomputable def A_zg : Sh := (.cons (.dat y1) (.cons (.ptr (.cons (.dat yi) .nil)) .nil))
noncomputable def I_zg : List (Nat × OSh) := []
noncomputable def K_zg : RetK := { acts := [], res := [.tmp 3], sh := (.cons (.dat .bool) .nil), obs := [], pins := [] }
noncomputable def D_zg : FD := ⟨A_zg, I_zg, [], Bool, fun x => F_zg x.1.1 x.1.2.1.1, fun r => ([.dat .bool r], [])⟩
noncomputable def E_zg : Env := envOf []
noncomputable def Z_zg : Nat → Nat → List Nat := fun _ _ => []
noncomputable def O_zg : List (Nat × LD) := []
noncomputable def C_zg : Code := (f53.body).getD .skip
noncomputable def S_zx_0 (k : ((HL [y1] → Option (Int))) × (Int × ((List Nat) × Y2))) (v : (Nat) × Int) : Tr (((Nat) × Int) ⊕ (Nat)) :=
 .t (decide (v.2 < k.2.1))
 (.g (inR v.2 (List.length k.2.2.1)) <|
 .g (decide ((Int.toNat v.2) < List.length k.2.2.1) && decide ((List.getD k.2.2.1 (Int.toNat v.2) 0) < List.length k.2.2.2)) <|
 .c (Int) (k.1 ((List.getD k.2.2.2 (List.getD k.2.2.1 (Int.toNat v.2) 0) ([] : Y1)), ())) fun r6_ =>
 .c (Int) (k.1 ((List.getD k.2.2.2 v.1 ([] : Y1)), ())) fun r7_ =>
 .t (decide (r6_ < r7_))
 (.l (.inl ((List.getD k.2.2.1 (Int.toNat v.2) 0), (IntKind.wrap .i64 (v.2 + (1 : Int))))))
 (.l (.inl (v.1, (IntKind.wrap .i64 (v.2 + (1 : Int)))))))
 (.l (.inr v.1))
noncomputable def L_zx_0 (k : ((HL [y1] → Option (Int))) × (Int × ((List Nat) × Y2))) (v : (Nat) × Int) : Option (Nat) := iter (fun v => (S_zx_0 k v).ev) v
noncomputable def DL_zx_0 : LD := ⟨{ acts := [], S := { slots := [0, 1, 5, 11, 12, 13], sh := (.cons (.arr 64) (.cons (.clo [y1] yi) (.cons (.row 64) (.cons (.arr 64) (.cons (.dat yi) (.cons (.dat yi) .nil)))))), obs := [(64, .perm 22 3 yi)] } }, [(0, { acts := [], S := { slots := [0, 5], sh := (.cons (.arr 64) (.cons (.row 64) .nil)), obs := [(64, .perm 22 3 yi)] } })], (yh [] .nil), ((HL [y1] → Option (Int))) × (Int × ((List Nat) × Y2)), (Nat) × (Int), Nat, fun k v => (((), (k.1, (v.1, ((), (k.2.1, (v.2, ())))))), (k.2.2, ())), fun t => (t.1.2.1, (t.1.2.2.2.2.1, t.2.1)), fun t => (t.1.2.2.1, t.1.2.2.2.2.2.1), S_zx_0, fun k r => .l (.exit 0 (mkSt ({ slots := [0, 5], sh := (.cons (.arr 64) (.cons (.row 64) .nil)), obs := [(64, .perm 22 3 yi)] }) (((), (r, ())), (k.2.2, ()))))⟩
noncomputable def T_zx (a2_ : (HL [y1] → Option (Int))) (a1_ : (List Nat) × Y2) : Tr Y1 :=
 .g (inR (0 : Int) (List.length a1_.1)) <|
 .g (decide ((Int.toNat (0 : Int)) < List.length a1_.1) && decide ((List.getD a1_.1 (Int.toNat (0 : Int)) 0) < List.length a1_.2)) <|
 .c (Nat) (L_zx_0 (a2_, (((List.length a1_.1 : Nat) : Int), a1_)) ((List.getD a1_.1 (Int.toNat (0 : Int)) 0), (0 : Int))) fun r10_ =>
 .l (List.getD a1_.2 r10_ ([] : Y1))
noncomputable def F_zx (a2_ : (HL [y1] → Option (Int))) (a1_ : (List Nat) × Y2) : Option Y1 := (T_zx a2_ a1_).ev
noncomputable def A_zx : Sh := (.cons (.arr 64) (.cons (.clo [y1] yi) .nil))
noncomputable def I_zx : List (Nat × OSh) := [(64, .perm 22 3 yi)]
noncomputable def K_zx : RetK := { acts := [.pull 4 800000, .ren 800000 0], res := [.tmp 4], sh := (.cons (.arr 0) .nil), obs := [(0, .arr 3 yi)], pins := [], gone := [64] }
noncomputable def D_zx : FD := ⟨A_zx, I_zx, [.arg 0], Y1, fun x => F_zx x.1.2.1 x.2.1, fun r => ([.arr 0], [(0, .arr 3 yi r), (64, .spent)])⟩
noncomputable def E_zx : Env := envOf []
noncomputable def Z_zx : Nat → Nat → List Nat := fun _ _ => []
noncomputable def O_zx : List (Nat × LD) := [(0, DL_zx_0)]
noncomputable def C_zx : Code := (f54.body).getD .skip
noncomputable def S_zi_0 (k : Int × (Y1 × (Int × (Y1 × Y2)))) (v : Int × Int) : Tr ((Int × Int) ⊕ (Int)) :=
 .t (decide (v.2 < k.2.2.1))
 (.g (inR v.2 (List.length k.2.1)) <|
 .g (inR k.1 (List.length k.2.2.2.2)) <|
 .g (inR (List.getD k.2.1 (Int.toNat v.2) (0 : Int)) (List.length (List.getD k.2.2.2.2 (Int.toNat k.1) ([] : Y1)))) <|
 .g (inR k.1 (List.length k.2.2.2.2)) <|
 .g (inR v.1 (List.length (List.getD k.2.2.2.2 (Int.toNat k.1) ([] : Y1)))) <|
 .t (decide ((List.getD (List.getD k.2.2.2.2 (Int.toNat k.1) ([] : Y1)) (Int.toNat (List.getD k.2.1 (Int.toNat v.2) (0 : Int))) (0 : Int)) < (List.getD (List.getD k.2.2.2.2 (Int.toNat k.1) ([] : Y1)) (Int.toNat v.1) (0 : Int))))
 (.l (.inl ((List.getD k.2.1 (Int.toNat v.2) (0 : Int)), (IntKind.wrap .i64 (v.2 + (1 : Int))))))
 (.l (.inl (v.1, (IntKind.wrap .i64 (v.2 + (1 : Int)))))))
 (.l (.inr v.1))
noncomputable def L_zi_0 (k : Int × (Y1 × (Int × (Y1 × Y2)))) (v : Int × Int) : Option (Int) := iter (fun v => (S_zi_0 k v).ev) v
noncomputable def DL_zi_0 : LD := ⟨{ acts := [], S := { slots := [1, 3, 7, 13, 14, 15], sh := (.cons (.dat yi) (.cons (.box 3 0) (.cons (.dat yi) (.cons (.dat y1) (.cons (.dat yi) (.cons (.dat yi) .nil)))))), obs := [(3, .cells (.cons (.dat y1) (.cons (.dat y2) .nil)))] } }, [(0, (yh [7] (.cons (.dat yi) .nil)))], (yh [] .nil), Int × (Y1 × (Int × (Y1 × Y2))), Int × (Int), Int, fun k v => ((k.1, ((), (v.1, (k.2.1, (k.2.2.1, (v.2, ())))))), ((k.2.2.2.1, (k.2.2.2.2, ())), ())), fun t => (t.1.1, (t.1.2.2.2.1, (t.1.2.2.2.2.1, (t.2.1.1, t.2.1.2.1)))), fun t => (t.1.2.2.1, t.1.2.2.2.2.2.1), S_zi_0, fun _ r => .l (.exit 0 (mkSt ((ys [7] (.cons (.dat yi) .nil))) ((r, ()), ())))⟩
noncomputable def T_zi (a1_ : Y1) (a2_ : List Y1) (a3_ : Int) (a4_ : Y1) : Tr (Int) :=
 .g (inR (0 : Int) (List.length a4_)) <|
 .c (Int) (L_zi_0 (a3_, (a4_, (((List.length a4_ : Nat) : Int), (a1_, a2_)))) ((List.getD a4_ (Int.toNat (0 : Int)) (0 : Int)), (0 : Int))) fun r9_ =>
 .l r9_
noncomputable def F_zi (a1_ : Y1) (a2_ : List Y1) (a3_ : Int) (a4_ : Y1) : Option (Int) := (T_zi a1_ a2_ a3_ a4_).ev
noncomputable def A_zi : Sh := (.cons (.agg (.cons (.dat y1) (.cons (.dat y2) .nil))) (.cons (.dat yi) (.cons (.dat y1) .nil)))
noncomputable def I_zi : List (Nat × OSh) := []
noncomputable def K_zi : RetK := { acts := [], res := [.tmp 6], sh := (.cons (.dat yi) .nil), obs := [], pins := [] }
noncomputable def D_zi : FD := ⟨A_zi, I_zi, [], Int, fun x => F_zi x.1.1.1 x.1.1.2.1 x.1.2.1 x.1.2.2.1, fun r => ([.dat yi r], [])⟩
noncomputable def E_zi : Env := envOf []
noncomputable def Z_zi : Nat → Nat → List Nat := fun _ _ => []
noncomputable def O_zi : List (Nat × LD) := [(0, DL_zi_0)]
noncomputable def C_zi : Code := (f63.body).getD .skip
noncomputable def S_zh_0 (k : Y1 × (Int × (Y1 × Y2))) (v : Int × Y1) : Tr ((Int × Y1) ⊕ Y1) :=
 .t (decide (v.1 < k.2.1))
 (.c (Int) (F_zi k.2.2.1 k.2.2.2 v.1 k.1) fun r7_ =>
 .g (decide ((List.length v.2 + List.length ([r7_] : Y1)) * 8 ≤ 140737488355328)) <|
 .l (.inl ((IntKind.wrap .i64 (v.1 + (1 : Int))), (v.2 ++ ([r7_] : Y1)))))
 (.l (.inr v.2))
noncomputable def L_zh_0 (k : Y1 × (Int × (Y1 × Y2))) (v : Int × Y1) : Option Y1 := iter (fun v => (S_zh_0 k v).ev) v
noncomputable def DL_zh_0 : LD := ⟨{ acts := [], S := { slots := [1, 2, 5, 10, 11], sh := (.cons (.dat y1) (.cons (.box 2 0) (.cons (.arr 7) (.cons (.dat yi) (.cons (.dat yi) .nil))))), obs := [(2, .cells (.cons (.dat y1) (.cons (.dat y2) .nil))), (7, .arr 3 yi)] } }, [(0, { acts := [], S := { slots := [5], sh := (.cons (.arr 7) .nil), obs := [(7, .arr 3 yi)] } })], (yh [] .nil), Y1 × (Int × (Y1 × Y2)), Int × Y1, Y1, fun k v => ((k.1, ((), ((), (k.2.1, (v.1, ()))))), ((k.2.2.1, (k.2.2.2, ())), (v.2, ()))), fun t => (t.1.1, (t.1.2.2.2.1, (t.2.1.1, t.2.1.2.1))), fun t => (t.1.2.2.2.2.1, t.2.2.1), S_zh_0, fun _ r => .l (.exit 0 (mkSt ({ slots := [5], sh := (.cons (.arr 7) .nil), obs := [(7, .arr 3 yi)] }) (((), ()), (r, ()))))⟩
noncomputable def T_zh (a1_ : Y1) (a2_ : List Y1) (a3_ : Y1) : Tr Y1 :=
 .c Y1 (L_zh_0 (a3_, (((List.length a2_ : Nat) : Int), (a1_, a2_))) ((0 : Int), ([] : Y1))) fun r9_ =>
 .l r9_
noncomputable def F_zh (a1_ : Y1) (a2_ : List Y1) (a3_ : Y1) : Option Y1 := (T_zh a1_ a2_ a3_).ev
noncomputable def A_zh : Sh := (.cons (.agg (.cons (.dat y1) (.cons (.dat y2) .nil))) (.cons (.dat y1) .nil))
noncomputable def I_zh : List (Nat × OSh) := []
noncomputable def K_zh : RetK := { acts := [.ren 7 0], res := [.tmp 4], sh := (.cons (.arr 0) .nil), obs := [(0, .arr 3 yi)], pins := [] }
noncomputable def D_zh : FD := ⟨A_zh, I_zh, [], Y1, fun x => F_zh x.1.1.1 x.1.1.2.1 x.1.2.1, fun r => ([.arr 0], [(0, .arr 3 yi r)])⟩
noncomputable def E_zh : Env := envOf [(63, D_zi)]
noncomputable def Z_zh : Nat → Nat → List Nat := fun _ _ => []
noncomputable def O_zh : List (Nat × LD) := [(0, DL_zh_0)]
noncomputable def C_zh : Code := (f55.body).getD .skip
noncomputable def S_ze_0 (k : Int × (Y1 × (Y2 × Y1))) (v : Int × Y1) : Tr ((Int × Y1) ⊕ Y1) :=
 .t (decide (v.1 < k.1))
 (.g (inR v.1 (List.length k.2.2.2)) <|
 .g (decide ((Int.toNat v.1) < List.length k.2.2.2)) <|
 .g (inR v.1 (List.length k.2.2.1)) <|
 .g (inR (List.getD k.2.2.2 (Int.toNat v.1) (0 : Int)) (List.length (List.getD k.2.2.1 (Int.toNat v.1) ([] : Y1)))) <|
 .g (decide ((List.length v.2 + List.length ([(List.getD (List.getD k.2.2.1 (Int.toNat v.1) ([] : Y1)) (Int.toNat (List.getD k.2.2.2 (Int.toNat v.1) (0 : Int))) (0 : Int))] : Y1)) * 8 ≤ 140737488355328)) <|
 .l (.inl ((IntKind.wrap .i64 (v.1 + (1 : Int))), (v.2 ++ ([(List.getD (List.getD k.2.2.1 (Int.toNat v.1) ([] : Y1)) (Int.toNat (List.getD k.2.2.2 (Int.toNat v.1) (0 : Int))) (0 : Int))] : Y1)))))
 (.l (.inr v.2))
noncomputable def L_ze_0 (k : Int × (Y1 × (Y2 × Y1))) (v : Int × Y1) : Option Y1 := iter (fun v => (S_ze_0 k v).ev) v
noncomputable def DL_ze_0 : LD := ⟨{ acts := [], S := { slots := [2, 5, 11, 12, 13], sh := (.cons (.box 2 0) (.cons (.arr 8) (.cons (.arr 704) (.cons (.dat yi) (.cons (.dat yi) .nil))))), obs := [(2, .cells (.cons (.dat y1) (.cons (.dat y2) .nil))), (8, .arr 3 yi), (704, .arr 3 yi)] } }, [(0, { acts := [], S := { slots := [5], sh := (.cons (.arr 8) .nil), obs := [(8, .arr 3 yi)] } })], (yh [] .nil), Int × (Y1 × (Y2 × Y1)), Int × Y1, Y1, fun k v => (((), ((), ((), (k.1, (v.1, ()))))), ((k.2.1, (k.2.2.1, ())), (v.2, (k.2.2.2, ())))), fun t => (t.1.2.2.2.1, (t.2.1.1, (t.2.1.2.1, t.2.2.2.1))), fun t => (t.1.2.2.2.2.1, t.2.2.1), S_ze_0, fun _ r => .l (.exit 0 (mkSt ({ slots := [5], sh := (.cons (.arr 8) .nil), obs := [(8, .arr 3 yi)] }) (((), ()), (r, ()))))⟩
noncomputable def T_ze (a1_ : Y1) (a2_ : List Y1) (a3_ : Y1) : Tr Y1 :=
 .c Y1 (F_zh a1_ a2_ a3_) fun r1_ =>
 .c Y1 (L_ze_0 (((List.length r1_ : Nat) : Int), (a1_, (a2_, r1_))) ((0 : Int), ([] : Y1))) fun r9_ =>
 .l r9_
noncomputable def F_ze (a1_ : Y1) (a2_ : List Y1) (a3_ : Y1) : Option Y1 := (T_ze a1_ a2_ a3_).ev
noncomputable def A_ze : Sh := (.cons (.agg (.cons (.dat y1) (.cons (.dat y2) .nil))) (.cons (.dat y1) .nil))
noncomputable def I_ze : List (Nat × OSh) := []
noncomputable def K_ze : RetK := { acts := [.ren 8 0], res := [.tmp 4], sh := (.cons (.arr 0) .nil), obs := [(0, .arr 3 yi)], pins := [] }
noncomputable def D_ze : FD := ⟨A_ze, I_ze, [], Y1, fun x => F_ze x.1.1.1 x.1.1.2.1 x.1.2.1, fun r => ([.arr 0], [(0, .arr 3 yi r)])⟩
noncomputable def E_ze : Env := envOf [(55, D_zh)]
noncomputable def Z_ze : Nat → Nat → List Nat := fun _ _ => []
noncomputable def O_ze : List (Nat × LD) := [(0, DL_ze_0)]
noncomputable def C_ze : Code := (f41.body).getD .skip
noncomputable def S_zz_0 (k : Y1 × Int) (v : Int × Int) : Tr ((Int × Int) ⊕ (Int)) :=
 .t (decide (v.2 < k.2))
 (.g (inR v.2 (List.length k.1)) <|
 .l (.inl ((IntKind.wrap .i64 (v.1 + (List.getD k.1 (Int.toNat v.2) (0 : Int)))), (IntKind.wrap .i64 (v.2 + (1 : Int))))))
 (.l (.inr v.1))
noncomputable def L_zz_0 (k : Y1 × Int) (v : Int × Int) : Option (Int) := iter (fun v => (S_zz_0 k v).ev) v
noncomputable def DL_zz_0 : LD := ⟨(yh [3, 6, 7, 8] (.cons (.dat yi) (.cons (.dat y1) (.cons (.dat yi) (.cons (.dat yi) .nil))))), [(0, (yh [3] (.cons (.dat yi) .nil)))], (yh [] .nil), Y1 × (Int), Int × (Int), Int, fun k v => ((v.1, (k.1, (k.2, (v.2, ())))), ()), fun t => (t.1.2.1, t.1.2.2.1), fun t => (t.1.1, t.1.2.2.2.1), S_zz_0, fun _ r => .l (.exit 0 (mkSt ((ys [3] (.cons (.dat yi) .nil))) ((r, ()), ())))⟩
noncomputable def T_zz (a1_ : Y1) : Tr (Int) :=
 .c (Int) (L_zz_0 (a1_, ((List.length a1_ : Nat) : Int)) ((0 : Int), (0 : Int))) fun r6_ =>
 .l r6_
noncomputable def F_zz (a1_ : Y1) : Option (Int) := (T_zz a1_).ev
noncomputable def A_zz : Sh := (.cons (.dat y1) .nil)
noncomputable def I_zz : List (Nat × OSh) := []
noncomputable def K_zz : RetK := { acts := [], res := [.tmp 2], sh := (.cons (.dat yi) .nil), obs := [], pins := [] }
noncomputable def D_zz : FD := ⟨A_zz, I_zz, [], Int, fun x => F_zz x.1.1, fun r => ([.dat yi r], [])⟩
noncomputable def E_zz : Env := envOf []
noncomputable def Z_zz : Nat → Nat → List Nat := fun _ _ => []
noncomputable def O_zz : List (Nat × LD) := [(0, DL_zz_0)]
noncomputable def C_zz : Code := (f40.body).getD .skip
noncomputable def T_zj (a1_ : Y1) (a2_ : List Y1) (a3_ : Y1) : Tr (Int) :=
 .c Y1 (F_ze a1_ a2_ a3_) fun r1_ =>
 .c (Int) (F_zz r1_) fun r2_ =>
 .l r2_
noncomputable def F_zj (a1_ : Y1) (a2_ : List Y1) (a3_ : Y1) : Option (Int) := (T_zj a1_ a2_ a3_).ev
noncomputable def A_zj : Sh := (.cons (.agg (.cons (.dat y1) (.cons (.dat y2) .nil))) (.cons (.dat y1) .nil))
noncomputable def I_zj : List (Nat × OSh) := []
noncomputable def K_zj : RetK := { acts := [], res := [.tmp 4], sh := (.cons (.dat yi) .nil), obs := [], pins := [] }
noncomputable def D_zj : FD := ⟨A_zj, I_zj, [], Int, fun x => F_zj x.1.1.1 x.1.1.2.1 x.1.2.1, fun r => ([.dat yi r], [])⟩
noncomputable def E_zj : Env := envOf [(41, D_ze), (40, D_zz)]
noncomputable def Z_zj : Nat → Nat → List Nat := fun _ _ => []
noncomputable def O_zj : List (Nat × LD) := []
noncomputable def C_zj : Code := (f25.body).getD .skip
noncomputable def T_zf (a1_ : Y1) (a2_ : List Y1) (a3_ : Int) : Tr Y1 :=
 .c ((List Nat) × Y2) (F_zy ((List.length a1_ : Nat) : Int)) fun r1_ =>
 .c ((List Nat) × Y2) (F_zar (fun h2_ => Option.bind (F_zg h2_.1 a3_) fun y3_ => some y3_) r1_) fun r4_ =>
 .c Y1 (F_zx (fun h5_ => Option.bind (F_zj a1_ a2_ h5_.1) fun y6_ => some y6_) r4_) fun r7_ =>
 .l r7_
noncomputable def F_zf (a1_ : Y1) (a2_ : List Y1) (a3_ : Int) : Option Y1 := (T_zf a1_ a2_ a3_).ev
noncomputable def A_zf : Sh := (.cons (.agg (.cons (.dat y1) (.cons (.dat y2) .nil))) (.cons (.dat yi) .nil))
noncomputable def I_zf : List (Nat × OSh) := []
noncomputable def K_zf : RetK := { acts := [.ren 960 0], res := [.tmp 4], sh := (.cons (.arr 0) .nil), obs := [(0, .arr 3 yi)], pins := [] }
noncomputable def D_zf : FD := ⟨A_zf, I_zf, [], Y1, fun x => F_zf x.1.1.1 x.1.1.2.1 x.1.2.1, fun r => ([.arr 0], [(0, .arr 3 yi r)])⟩
noncomputable def E_zf : Env := envOf [(52, D_zy), (51, D_zar), (54, D_zx), (54, D_zx), (25, D_zj), (51, D_zar), (53, D_zg)]
noncomputable def Z_zf : Nat → Nat → List Nat := fun _ _ => []
noncomputable def O_zf : List (Nat × LD) := []
noncomputable def C_zf : Code := (f39.body).getD .skip
noncomputable def S_zk_0 (k : Int × (Y1 × Y2)) (v : Int × Y1) : Tr ((Int × Y1) ⊕ Y1) :=
 .t (decide (v.1 < k.1))
 (.c Y1 (F_zf k.2.1 k.2.2 (IntKind.wrap .i64 (v.1 + (1 : Int)))) fun r6_ =>
 .c (Int) (F_zj k.2.1 k.2.2 r6_) fun r7_ =>
 .g (decide ((List.length v.2 + List.length ([r7_] : Y1)) * 8 ≤ 140737488355328)) <|
 .l (.inl ((IntKind.wrap .i64 (v.1 + (1 : Int))), (v.2 ++ ([r7_] : Y1)))))
 (.l (.inr v.2))
noncomputable def L_zk_0 (k : Int × (Y1 × Y2)) (v : Int × Y1) : Option Y1 := iter (fun v => (S_zk_0 k v).ev) v
noncomputable def DL_zk_0 : LD := ⟨{ acts := [], S := { slots := [1, 3, 8, 9], sh := (.cons (.box 1 0) (.cons (.arr 5) (.cons (.dat yi) (.cons (.dat yi) .nil)))), obs := [(1, .cells (.cons (.dat y1) (.cons (.dat y2) .nil))), (5, .arr 3 yi)] } }, [(0, { acts := [], S := { slots := [3], sh := (.cons (.arr 5) .nil), obs := [(5, .arr 3 yi)] } })], (yh [] .nil), Int × (Y1 × Y2), Int × Y1, Y1, fun k v => (((), ((), (k.1, (v.1, ())))), ((k.2.1, (k.2.2, ())), (v.2, ()))), fun t => (t.1.2.2.1, (t.2.1.1, t.2.1.2.1)), fun t => (t.1.2.2.2.1, t.2.2.1), S_zk_0, fun _ r => .l (.exit 0 (mkSt ({ slots := [3], sh := (.cons (.arr 5) .nil), obs := [(5, .arr 3 yi)] }) (((), ()), (r, ()))))⟩
noncomputable def T_zk (a1_ : Y1) (a2_ : List Y1) : Tr Y1 :=
 .c Y1 (L_zk_0 (((List.length a1_ : Nat) : Int), (a1_, a2_)) ((0 : Int), ([] : Y1))) fun r9_ =>
 .l r9_
noncomputable def F_zk (a1_ : Y1) (a2_ : List Y1) : Option Y1 := (T_zk a1_ a2_).ev
noncomputable def A_zk : Sh := (.cons (.agg (.cons (.dat y1) (.cons (.dat y2) .nil))) .nil)
noncomputable def I_zk : List (Nat × OSh) := []
noncomputable def K_zk : RetK := { acts := [.ren 5 0], res := [.tmp 2], sh := (.cons (.arr 0) .nil), obs := [(0, .arr 3 yi)], pins := [] }
noncomputable def D_zk : FD := ⟨A_zk, I_zk, [], Y1, fun x => F_zk x.1.1.1 x.1.1.2.1, fun r => ([.arr 0], [(0, .arr 3 yi r)])⟩
noncomputable def E_zk : Env := envOf [(39, D_zf), (25, D_zj)]
noncomputable def Z_zk : Nat → Nat → List Nat := fun _ _ => []
noncomputable def O_zk : List (Nat × LD) := [(0, DL_zk_0)]
noncomputable def C_zk : Code := (f24.body).getD .skip
noncomputable def T_zo (a1_ : Int) (a2_ : Int) : Tr (Int × Int) :=
 .g (inR (1 : Int) 2) <|
 .t (decide ((0 : Int) < a2_))
 (.l (a1_, a2_))
 (.g (inR (0 : Int) 2) <|
 .t (a1_ == (0 : Int))
 (.l ((1 : Int), (1 : Int)))
 (.l ((1 : Int), (0 : Int))))
noncomputable def F_zo (a1_ : Int) (a2_ : Int) : Option (Int × Int) := (T_zo a1_ a2_).ev
noncomputable def A_zo : Sh := (.cons (.agg (.cons (.dat yi) (.cons (.dat yi) .nil))) .nil)
noncomputable def I_zo : List (Nat × OSh) := []
noncomputable def K_zo : RetK := { acts := [], res := [.cell 2 27], sh := (.cons (.agg (.cons (.dat yi) (.cons (.dat yi) .nil))) .nil), obs := [], pins := [] }
noncomputable def D_zo : FD := ⟨A_zo, I_zo, [], Int × (Int), fun x => F_zo x.1.1.1 x.1.1.2.1, fun r => ([.agg [.dat yi r.1, .dat yi r.2]], [])⟩
noncomputable def E_zo : Env := envOf []
noncomputable def Z_zo : Nat → Nat → List Nat := fun _ _ => []
noncomputable def O_zo : List (Nat × LD) := []
noncomputable def C_zo : Code := (f23.body).getD .skip
noncomputable def S_zn_0 (k : Y1 × (Y1 × (Y2 × (Int × (Int × Y1))))) (v : Int × (Int × (Int × Int))) : Tr ((Int × (Int × (Int × Int))) ⊕ (Int × (Int × Int))) :=
 .t (decide (v.2.1 ≤ ((List.length k.1 : Nat) : Int)))
 (.g (decide ((0 : Int) ≤ v.2.1) && decide (v.2.1 ≤ ((List.length k.1 : Nat) : Int))) <|
 .c (List Int) (F_zax (List.drop 0 (List.take (Int.toNat v.2.1) k.1))) fun r14_ =>
 .c Y1 (F_zaw r14_) fun r15_ =>
 .c (Int) (F_zj k.2.1 k.2.2.1 r15_) fun r16_ =>
 .g (inR (IntKind.wrap .i64 (v.2.1 - (1 : Int))) (List.length k.2.2.2.2.2)) <|
 .g (decide ((Int.toNat (IntKind.wrap .i64 (v.2.1 - (1 : Int)))) < List.length k.2.2.2.2.2)) <|
 .c (Int × Int) (F_zo r16_ (List.getD k.2.2.2.2.2 (Int.toNat (IntKind.wrap .i64 (v.2.1 - (1 : Int)))) (0 : Int))) fun r17_ =>
 .c (Int × Int) (F_zo v.2.2.1 v.2.2.2) fun r18_ =>
 .t (v.1 == (0 : Int))
 (.l (.inl (v.2.1, ((IntKind.wrap .i64 (v.2.1 + (1 : Int))), (r16_, (List.getD k.2.2.2.2.2 (Int.toNat (IntKind.wrap .i64 (v.2.1 - (1 : Int)))) (0 : Int)))))))
 (.g (inR (0 : Int) 2) <|
 .g (inR (1 : Int) 2) <|
 .g (inR (0 : Int) 2) <|
 .g (inR (1 : Int) 2) <|
 .t (decide ((IntKind.wrap .i64 (r18_.1 * r17_.2)) < (IntKind.wrap .i64 (r17_.1 * r18_.2))))
 (.l (.inl (v.2.1, ((IntKind.wrap .i64 (v.2.1 + (1 : Int))), (r16_, (List.getD k.2.2.2.2.2 (Int.toNat (IntKind.wrap .i64 (v.2.1 - (1 : Int)))) (0 : Int)))))))
 (.l (.inl (v.1, ((IntKind.wrap .i64 (v.2.1 + (1 : Int))), (v.2.2.1, v.2.2.2)))))))
 (.l (.inr (v.1, (v.2.2.1, v.2.2.2))))
noncomputable def L_zn_0 (k : Y1 × (Y1 × (Y2 × (Int × (Int × Y1))))) (v : Int × (Int × (Int × Int))) : Option (Int × (Int × Int)) := iter (fun v => (S_zn_0 k v).ev) v
noncomputable def DL_zn_0 : LD := ⟨{ acts := [], S := { slots := [1, 2, 5, 7, 8, 9, 10, 11], sh := (.cons (.dat y1) (.cons (.box 2 0) (.cons (.box 5 0) (.cons (.fn 23 .nil) (.cons (.arr 1792) (.cons (.dat yi) (.cons (.box 10 0) (.cons (.dat yi) .nil)))))))), obs := [(2, .cells (.cons (.dat y1) (.cons (.dat y2) .nil))), (5, .cells (.cons (.dat yi) (.cons (.dat yi) .nil))), (1792, .arr 3 yi), (10, .cells (.cons (.dat yi) (.cons (.dat yi) .nil)))] } }, [(0, { acts := [], S := { slots := [5, 9, 10], sh := (.cons (.box 5 0) (.cons (.dat yi) (.cons (.box 10 0) .nil))), obs := [(5, .cells (.cons (.dat yi) (.cons (.dat yi) .nil))), (10, .cells (.cons (.dat yi) (.cons (.dat yi) .nil)))] } })], (yh [] .nil), Y1 × (Y1 × (Y2 × (Int × (Int × Y1)))), Int × (Int × (Int × Int)), Int × (Int × Int), fun k v => ((k.1, ((), ((), ((), ((), (v.1, ((), (v.2.1, ())))))))), ((k.2.1, (k.2.2.1, ())), ((k.2.2.2.1, (k.2.2.2.2.1, ())), (k.2.2.2.2.2, ((v.2.2.1, (v.2.2.2, ())), ()))))), fun t => (t.1.1, (t.2.1.1, (t.2.1.2.1, (t.2.2.1.1, (t.2.2.1.2.1, t.2.2.2.1))))), fun t => (t.1.2.2.2.2.2.1, (t.1.2.2.2.2.2.2.2.1, (t.2.2.2.2.1.1, t.2.2.2.2.1.2.1))), S_zn_0, fun k r => .l (.exit 0 (mkSt ({ slots := [5, 9, 10], sh := (.cons (.box 5 0) (.cons (.dat yi) (.cons (.box 10 0) .nil))), obs := [(5, .cells (.cons (.dat yi) (.cons (.dat yi) .nil))), (10, .cells (.cons (.dat yi) (.cons (.dat yi) .nil)))] }) (((), (r.1, ((), ()))), ((k.2.2.2.1, (k.2.2.2.2.1, ())), ((r.2.1, (r.2.2, ())), ())))))⟩
noncomputable def T_zn (a1_ : Y1) (a2_ : List Y1) (a3_ : Y1) : Tr (Int × (Int × (Int × (Bool)))) :=
 .c (Bool) (F_zl a1_ a2_) fun r1_ =>
 .t (!r1_)
 (.l ((0 : Int), ((0 : Int), ((0 : Int), false))))
 (.c (Bool) (F_zv a3_ ((List.length a1_ : Nat) : Int)) fun r2_ =>
 .t (!r2_)
 (.l ((0 : Int), ((0 : Int), ((0 : Int), false))))
 (.c Y1 (F_zk a1_ a2_) fun r3_ =>
 .c (Int × (Int × Int)) (L_zn_0 (a3_, (a1_, (a2_, ((0 : Int), ((0 : Int), r3_))))) ((0 : Int), ((1 : Int), ((0 : Int), (0 : Int))))) fun r24_ =>
 .l (r24_.1, (r24_.2.1, (r24_.2.2, true)))))
noncomputable def F_zn (a1_ : Y1) (a2_ : List Y1) (a3_ : Y1) : Option (Int × (Int × (Int × (Bool)))) := (T_zn a1_ a2_ a3_).ev
noncomputable def A_zn : Sh := (.cons (.agg (.cons (.dat y1) (.cons (.dat y2) .nil))) (.cons (.dat y1) .nil))
noncomputable def I_zn : List (Nat × OSh) := []
noncomputable def K_zn : RetK := { acts := [], res := [.tmp 4, .cell 5 27, .tmp 6], sh := (.cons (.dat yi) (.cons (.agg (.cons (.dat yi) (.cons (.dat yi) .nil))) (.cons (.dat .bool) .nil))), obs := [], pins := [] }
noncomputable def D_zn : FD := ⟨A_zn, I_zn, [], Int × (Int × (Int × (Bool))), fun x => F_zn x.1.1.1 x.1.1.2.1 x.1.2.1, fun r => ([.dat yi r.1, .agg [.dat yi r.2.1, .dat yi r.2.2.1], .dat .bool r.2.2.2], [])⟩
noncomputable def E_zn : Env := envOf [(21, D_zl), (22, D_zv), (24, D_zk), (27, D_zax), (26, D_zaw), (25, D_zj), (23, D_zo)]
noncomputable def Z_zn : Nat → Nat → List Nat := fun _ _ => []
noncomputable def O_zn : List (Nat × LD) := [(0, DL_zn_0)]
noncomputable def C_zn : Code := (f8.body).getD .skip
noncomputable def F_zac (a1_ : Int) (a2_ : Int) (a3_ : Int) (a4_ : Int) : Option (Bool) := some (a1_ == a3_ && a2_ == a4_)
noncomputable def D_zac : FD := fdEqA2
noncomputable def S_zad_0 (k : Y1 × Y1) (v : Int) : Tr ((Int) ⊕ ((Unit) ⊕ (Unit))) :=
 .t (decide (v < ((List.length k.1 : Nat) : Int)))
 (.g (inR v (List.length k.1)) <|
 .g (inR v (List.length k.2)) <|
 .t ((List.getD k.1 (Int.toNat v) (0 : Int)) != (List.getD k.2 (Int.toNat v) (0 : Int)))
 (.l (.inr (.inr ())))
 (.l (.inl (IntKind.wrap .i64 (v + (1 : Int))))))
 (.l (.inr (.inl ())))
noncomputable def L_zad_0 (k : Y1 × Y1) (v : Int) : Option ((Unit) ⊕ (Unit)) := iter (fun v => (S_zad_0 k v).ev) v
noncomputable def DL_zad_0 : LD := ⟨(yh [0, 1, 5] (.cons (.dat y1) (.cons (.dat y1) (.cons (.dat yi) .nil)))), [(0, (yh [] .nil))], (yh [4] (.cons (.dat .bool) .nil)), Y1 × Y1, Int, (Unit) ⊕ (Unit), fun k v => ((k.1, (k.2, (v, ()))), ()), fun t => (t.1.1, t.1.2.1), fun t => t.1.2.2.1, S_zad_0, fun _ r => .s (Unit) (Unit) r (fun _ => .l (.exit 0 (mkSt ((ys [] .nil)) ((), ())))) (fun _ => .l (.ret (mkSt ((ys [4] (.cons (.dat .bool) .nil))) ((false, ()), ()))))⟩
noncomputable def T_zad (a1_ : Y1) (a2_ : Y1) : Tr (Bool) :=
 .t (((List.length a1_ : Nat) : Int) != ((List.length a2_ : Nat) : Int))
 (.l false)
 (.c ((Unit) ⊕ (Unit)) (L_zad_0 (a1_, a2_) (0 : Int)) fun r5_ =>
 .s (Unit) (Unit) r5_
 (fun _ => .l true)
 (fun _ => .l false))
noncomputable def F_zad (a1_ : Y1) (a2_ : Y1) : Option (Bool) := (T_zad a1_ a2_).ev
noncomputable def A_zad : Sh := (.cons (.dat y1) (.cons (.dat y1) .nil))
noncomputable def I_zad : List (Nat × OSh) := []
noncomputable def K_zad : RetK := { acts := [], res := [.tmp 4], sh := (.cons (.dat .bool) .nil), obs := [], pins := [] }
noncomputable def D_zad : FD := ⟨A_zad, I_zad, [], Bool, fun x => F_zad x.1.1 x.1.2.1, fun r => ([.dat .bool r], [])⟩
noncomputable def E_zad : Env := envOf []
noncomputable def Z_zad : Nat → Nat → List Nat := fun _ _ => []
noncomputable def O_zad : List (Nat × LD) := [(0, DL_zad_0)]
noncomputable def C_zad : Code := (f11.body).getD .skip
noncomputable def S_zae_0 (k : Y2 × Y2) (v : Int) : Tr ((Int) ⊕ ((Unit) ⊕ (Unit))) :=
 .t (decide (v < ((List.length k.1 : Nat) : Int)))
 (.g (inR v (List.length k.1)) <|
 .g (inR v (List.length k.2)) <|
 .c (Bool) (F_zad (List.getD k.1 (Int.toNat v) ([] : Y1)) (List.getD k.2 (Int.toNat v) ([] : Y1))) fun r4_ =>
 .t (!r4_)
 (.l (.inr (.inr ())))
 (.l (.inl (IntKind.wrap .i64 (v + (1 : Int))))))
 (.l (.inr (.inl ())))
noncomputable def L_zae_0 (k : Y2 × Y2) (v : Int) : Option ((Unit) ⊕ (Unit)) := iter (fun v => (S_zae_0 k v).ev) v
noncomputable def DL_zae_0 : LD := ⟨(yh [0, 1, 5] (.cons (.dat y2) (.cons (.dat y2) (.cons (.dat yi) .nil)))), [(0, (yh [] .nil))], (yh [4] (.cons (.dat .bool) .nil)), Y2 × Y2, Int, (Unit) ⊕ (Unit), fun k v => ((k.1, (k.2, (v, ()))), ()), fun t => (t.1.1, t.1.2.1), fun t => t.1.2.2.1, S_zae_0, fun _ r => .s (Unit) (Unit) r (fun _ => .l (.exit 0 (mkSt ((ys [] .nil)) ((), ())))) (fun _ => .l (.ret (mkSt ((ys [4] (.cons (.dat .bool) .nil))) ((false, ()), ()))))⟩
noncomputable def T_zae (a1_ : List Y1) (a2_ : List Y1) : Tr (Bool) :=
 .t (((List.length a1_ : Nat) : Int) != ((List.length a2_ : Nat) : Int))
 (.l false)
 (.c ((Unit) ⊕ (Unit)) (L_zae_0 (a1_, a2_) (0 : Int)) fun r6_ =>
 .s (Unit) (Unit) r6_
 (fun _ => .l true)
 (fun _ => .l false))
noncomputable def F_zae (a1_ : List Y1) (a2_ : List Y1) : Option (Bool) := (T_zae a1_ a2_).ev
noncomputable def A_zae : Sh := (.cons (.dat y2) (.cons (.dat y2) .nil))
noncomputable def I_zae : List (Nat × OSh) := []
noncomputable def K_zae : RetK := { acts := [], res := [.tmp 4], sh := (.cons (.dat .bool) .nil), obs := [], pins := [] }
noncomputable def D_zae : FD := ⟨A_zae, I_zae, [], Bool, fun x => F_zae x.1.1 x.1.2.1, fun r => ([.dat .bool r], [])⟩
noncomputable def E_zae : Env := envOf [(11, D_zad)]
noncomputable def Z_zae : Nat → Nat → List Nat := fun _ _ => []
noncomputable def O_zae : List (Nat × LD) := [(0, DL_zae_0)]
noncomputable def C_zae : Code := (f28.body).getD .skip
noncomputable def T_zab (a1_ : Y1) (a2_ : List Y1) (a3_ : Y1) (a4_ : List Y1) : Tr (Bool) :=
 .c (Bool) (F_zad a1_ a3_) fun r1_ =>
 .t (!r1_)
 (.l false)
 (.c (Bool) (F_zae a2_ a4_) fun r2_ =>
 .t (!r2_)
 (.l false)
 (.l true))
noncomputable def F_zab (a1_ : Y1) (a2_ : List Y1) (a3_ : Y1) (a4_ : List Y1) : Option (Bool) := (T_zab a1_ a2_ a3_ a4_).ev
noncomputable def A_zab : Sh := (.cons (.agg (.cons (.dat y1) (.cons (.dat y2) .nil))) (.cons (.agg (.cons (.dat y1) (.cons (.dat y2) .nil))) .nil))
noncomputable def I_zab : List (Nat × OSh) := []
noncomputable def K_zab : RetK := { acts := [], res := [.tmp 4], sh := (.cons (.dat .bool) .nil), obs := [], pins := [] }
noncomputable def D_zab : FD := ⟨A_zab, I_zab, [], Bool, fun x => F_zab x.1.1.1 x.1.1.2.1 x.1.2.1.1 x.1.2.1.2.1, fun r => ([.dat .bool r], [])⟩
noncomputable def E_zab : Env := envOf [(11, D_zad), (28, D_zae)]
noncomputable def Z_zab : Nat → Nat → List Nat := fun _ _ => []
noncomputable def O_zab : List (Nat × LD) := []
noncomputable def C_zab : Code := (f10.body).getD .skip
noncomputable def T_zaa (a1_ : Y1) (a2_ : List Y1) (a3_ : Y1) : Tr (Bool) :=
 .t (decide ((1048576 : Int) < ((List.length a3_ : Nat) : Int)))
 (.l true)
 (.c (Int) (F_zaf a1_ a2_ (1048576 : Int)) fun r1_ =>
 .t (decide (r1_ < (0 : Int)))
 (.l true)
 (.c (Y1 × Y2) (F_zai a1_ a2_) fun r2_ =>
 .c Y1 (F_zaj a3_) fun r3_ =>
 .c (Int × (Int × (Int × (Bool)))) (F_zbq r2_.1 r2_.2 r3_) fun r4_ =>
 .c (Y1 × Y2) (F_zai a1_ a2_) fun r5_ =>
 .c Y1 (F_zaj a3_) fun r6_ =>
 .c (Int × (Int × (Int × (Bool)))) (F_zn r5_.1 r5_.2 r6_) fun r7_ =>
 .t (r7_.1 != r4_.1)
 (.l false)
 (.c (Bool) (F_zac r7_.2.1 r7_.2.2.1 r4_.2.1 r4_.2.2.1) fun r8_ =>
 .t (!r8_)
 (.l false)
 (.t (!(r7_.2.2.2 == r4_.2.2.2))
 (.l false)
 (.c (Y1 × Y2) (F_zai a1_ a2_) fun r9_ =>
 .c (Bool) (F_zab r5_.1 r5_.2 r9_.1 r9_.2) fun r10_ =>
 .t (!r10_)
 (.l false)
 (.c Y1 (F_zaj a3_) fun r11_ =>
 .c (Bool) (F_zad r6_ r11_) fun r12_ =>
 .t (!r12_)
 (.l false)
 (.l true)))))))
noncomputable def F_zaa (a1_ : Y1) (a2_ : List Y1) (a3_ : Y1) : Option (Bool) := (T_zaa a1_ a2_ a3_).ev
noncomputable def A_zaa : Sh := (.cons (.agg (.cons (.dat y1) (.cons (.dat y2) .nil))) (.cons (.dat y1) .nil))
noncomputable def I_zaa : List (Nat × OSh) := []
noncomputable def K_zaa : RetK := { acts := [], res := [.tmp 4], sh := (.cons (.dat .bool) .nil), obs := [], pins := [] }
noncomputable def D_zaa : FD := ⟨A_zaa, I_zaa, [], Bool, fun x => F_zaa x.1.1.1 x.1.1.2.1 x.1.2.1, fun r => ([.dat .bool r], [])⟩
noncomputable def E_zaa : Env := envOf [(4, D_zaf), (6, D_zai), (7, D_zaj), (5, D_zbq), (8, D_zn), (9, D_zac), (10, D_zab), (11, D_zad)]
noncomputable def Z_zaa : Nat → Nat → List Nat := fun _ _ => []
noncomputable def O_zaa : List (Nat × LD) := []
noncomputable def C_zaa : Code := (f3.body).getD .skip
end Go.Proofs.Ytbofjefpngpegaa
