/-
 Copies of the typed functions with rounds that are counted. No conditions.
-/
import Derived.Test.YtnagpmhaddfgmaaGreatC1
import Derived.Test.YtnagpmhaddfgmaaGreatB38
namespace Go.Proofs.YtnagpmhaddfgmaaGreat
open List (length getD set)
open Int (toNat)
open IntKind (wrap)
noncomputable def wamm (a1_ : Int) (a2_ : Int) : Tr (Bool) :=
 .g (decide (0 ≤ a2_)) <|
 .l ((wrap .u64 (BitVec.toNat ((BitVec.ofInt Zb (Int.fdiv a1_ (2 ^ (min (toNat a2_) Zb)))) &&& (BitVec.ofInt Zb (1 : Int))))) == (1 : Int))
noncomputable def wamn (a1_ : Int) (a2_ : Int) : Option (Bool) := (wamm a1_ a2_).ev
noncomputable def wks (k : Int) (v : Int × Y1) : Tr (Yam ⊕ Y1) :=
 .g (decide (0 ≤ v.1)) <|
 .t (decide ((0 : Int) < (Int.fdiv k (2 ^ (min (toNat v.1) Zb)))))
 (.c (Bool) (wamn k v.1) fun r4_ =>
 .t r4_
 (.g (decide ((length v.2 + length ([v.1] : Y1)) * 8 ≤ 140737488355328)) <|
 .l (.inl ((wrap .i64 (v.1 + 1)), (v.2 ++ ([v.1] : Y1)))))
 (.l (.inl ((wrap .i64 (v.1 + 1)), v.2))))
 (.l (.inr v.2))
noncomputable def wkt (k : Int) (v : Int × Y1) : Option Y1 := iterN (fun v => (wks k v).ev) 200 v
noncomputable def wamo (a1_ : Int) : Tr Y1 :=
 .c Y1 (wkt a1_ ((0 : Int), ([] : Y1))) fun r6_ =>
 .l r6_
noncomputable def wamp (a1_ : Int) : Option Y1 := (wamo a1_).ev
noncomputable def wta (a1_ : Int) : Tr (Int) :=
 .t (decide (4294967296 ≤ a1_))
 (.g (decide ((0 : Int) ≤ (32 : Int))) <|
 .t (decide ((65536 : Int) ≤ (Int.fdiv a1_ (2 ^ (min (toNat 32) Zb)))))
 (.g (decide ((0 : Int) ≤ (16 : Int))) <|
 .t (decide ((256 : Int) ≤ (Int.fdiv (Int.fdiv a1_ (2 ^ (min (toNat 32) Zb))) (2 ^ (min (toNat 16) Zb)))))
 (.g (decide ((0 : Int) ≤ (8 : Int))) <|
 .g (inR (wrap .u8 (Int.fdiv (Int.fdiv (Int.fdiv a1_ (2 ^ (min (toNat 32) Zb))) (2 ^ (min (toNat 16) Zb))) (2 ^ (min (toNat 8) Zb)))) (length Za)) <|
 .l (wrap .i64 ((wrap .i64 ((wrap .i64 ((32 : Int) + 16)) + 8)) + (wrap .i64 ((UInt8.toNat (getD Za (toNat (wrap .u8 (Int.fdiv (Int.fdiv (Int.fdiv a1_ (2 ^ (min (toNat 32) Zb))) (2 ^ (min (toNat 16) Zb))) (2 ^ (min (toNat 8) Zb))))) 0) : Nat) : Int)))))
 (.g (inR (wrap .u8 (Int.fdiv (Int.fdiv a1_ (2 ^ (min (toNat 32) Zb))) (2 ^ (min (toNat 16) Zb)))) (length Za)) <|
 .l (wrap .i64 ((wrap .i64 ((32 : Int) + 16)) + (wrap .i64 ((UInt8.toNat (getD Za (toNat (wrap .u8 (Int.fdiv (Int.fdiv a1_ (2 ^ (min (toNat 32) Zb))) (2 ^ (min (toNat 16) Zb))))) 0) : Nat) : Int))))))
 (.t (decide ((256 : Int) ≤ (Int.fdiv a1_ (2 ^ (min (toNat 32) Zb)))))
 (.g (decide ((0 : Int) ≤ (8 : Int))) <|
 .g (inR (wrap .u8 (Int.fdiv (Int.fdiv a1_ (2 ^ (min (toNat 32) Zb))) (2 ^ (min (toNat 8) Zb)))) (length Za)) <|
 .l (wrap .i64 ((wrap .i64 ((32 : Int) + 8)) + (wrap .i64 ((UInt8.toNat (getD Za (toNat (wrap .u8 (Int.fdiv (Int.fdiv a1_ (2 ^ (min (toNat 32) Zb))) (2 ^ (min (toNat 8) Zb))))) 0) : Nat) : Int)))))
 (.g (inR (wrap .u8 (Int.fdiv a1_ (2 ^ (min (toNat 32) Zb)))) (length Za)) <|
 .l (wrap .i64 ((32 : Int) + (wrap .i64 ((UInt8.toNat (getD Za (toNat (wrap .u8 (Int.fdiv a1_ (2 ^ (min (toNat 32) Zb))))) 0) : Nat) : Int)))))))
 (.t (decide (65536 ≤ a1_))
 (.g (decide ((0 : Int) ≤ (16 : Int))) <|
 .t (decide ((256 : Int) ≤ (Int.fdiv a1_ (2 ^ (min (toNat 16) Zb)))))
 (.g (decide ((0 : Int) ≤ (8 : Int))) <|
 .g (inR (wrap .u8 (Int.fdiv (Int.fdiv a1_ (2 ^ (min (toNat 16) Zb))) (2 ^ (min (toNat 8) Zb)))) (length Za)) <|
 .l (wrap .i64 ((wrap .i64 ((wrap .i64 ((0 : Int) + 16)) + 8)) + (wrap .i64 ((UInt8.toNat (getD Za (toNat (wrap .u8 (Int.fdiv (Int.fdiv a1_ (2 ^ (min (toNat 16) Zb))) (2 ^ (min (toNat 8) Zb))))) 0) : Nat) : Int)))))
 (.g (inR (wrap .u8 (Int.fdiv a1_ (2 ^ (min (toNat 16) Zb)))) (length Za)) <|
 .l (wrap .i64 ((wrap .i64 ((0 : Int) + 16)) + (wrap .i64 ((UInt8.toNat (getD Za (toNat (wrap .u8 (Int.fdiv a1_ (2 ^ (min (toNat 16) Zb))))) 0) : Nat) : Int))))))
 (.t (decide (256 ≤ a1_))
 (.g (decide ((0 : Int) ≤ (8 : Int))) <|
 .g (inR (wrap .u8 (Int.fdiv a1_ (2 ^ (min (toNat 8) Zb)))) (length Za)) <|
 .l (wrap .i64 ((wrap .i64 ((0 : Int) + 8)) + (wrap .i64 ((UInt8.toNat (getD Za (toNat (wrap .u8 (Int.fdiv a1_ (2 ^ (min (toNat 8) Zb))))) 0) : Nat) : Int)))))
 (.g (inR (wrap .u8 a1_) (length Za)) <|
 .l (wrap .i64 ((0 : Int) + (wrap .i64 ((UInt8.toNat (getD Za (toNat (wrap .u8 a1_)) 0) : Nat) : Int)))))))
noncomputable def wtb (a1_ : Int) : Option (Int) := (wta a1_).ev
noncomputable def wtc (a1_ : Int) : Tr (Int) :=
 .c (Int) (wtb a1_) fun r1_ =>
 .l r1_
noncomputable def wnz (a1_ : Int) : Option (Int) := (wtc a1_).ev
noncomputable def wgp (k : Int × (Int × ((Yd) × Int))) (v : Int × Y2) : Tr (Yl ⊕ Y2) :=
 .t (decide (k.1 < v.1))
 (.g (inR v.1 (length v.2)) <|
 .g (decide ((toNat v.1) < length v.2)) <|
 .g (inR (wrap .i64 (v.1 - 1)) (length v.2)) <|
 .g (decide ((toNat (wrap .i64 (v.1 - 1))) < length v.2)) <|
 .c (Int) (k.2.2.1 ((getD v.2 (toNat v.1) ([] : Y1)), ((getD v.2 (toNat (wrap .i64 (v.1 - 1))) ([] : Y1)), ()))) fun r12_ =>
 .t (decide (r12_ < 0))
 (.g (inR (wrap .i64 (v.1 - 1)) (length v.2)) <|
 .g (decide ((toNat (wrap .i64 (v.1 - 1))) < length v.2)) <|
 .g (inR v.1 (length v.2)) <|
 .g (decide ((toNat v.1) < length v.2)) <|
 .g (inR v.1 (length v.2)) <|
 .g (decide ((toNat v.1) < length v.2)) <|
 .g (inR (wrap .i64 (v.1 - 1)) (length (set v.2 (toNat v.1) (getD v.2 (toNat (wrap .i64 (v.1 - 1))) ([] : Y1))))) <|
 .g (decide ((toNat (wrap .i64 (v.1 - 1))) < length (set v.2 (toNat v.1) (getD v.2 (toNat (wrap .i64 (v.1 - 1))) ([] : Y1))))) <|
 .l (.inl ((wrap .i64 (v.1 - 1)), (set (set v.2 (toNat v.1) (getD v.2 (toNat (wrap .i64 (v.1 - 1))) ([] : Y1))) (toNat (wrap .i64 (v.1 - 1))) (getD v.2 (toNat v.1) ([] : Y1))))))
 (.l (.inr v.2)))
 (.l (.inr v.2))
noncomputable def wgq (k : Int × (Int × ((Yd) × Int))) (v : Int × Y2) : Option Y2 := iterN (fun v => (wgp k v).ev) 200 v
noncomputable def wgr (k : Int × (Int × (Yd))) (v : Int × Y2) : Tr (Yl ⊕ Y2) :=
 .t (decide (v.1 < k.2.1))
 (.c Y2 (wgq (k.1, (k.2.1, (k.2.2, v.1))) (v.1, v.2)) fun r18_ =>
 .l (.inl ((wrap .i64 (v.1 + 1)), r18_)))
 (.l (.inr v.2))
noncomputable def wgs (k : Int × (Int × (Yd))) (v : Int × Y2) : Option Y2 := iterN (fun v => (wgr k v).ev) 200 v
noncomputable def wtd (a2_ : Int) (a3_ : Int) (a4_ : Yd) (a1_ : List Y1) : Tr Y2 :=
 .c Y2 (wgs (a2_, (a3_, a4_)) ((wrap .i64 (a2_ + 1)), a1_)) fun r20_ =>
 .l r20_
noncomputable def wte (a2_ : Int) (a3_ : Int) (a4_ : Yd) (a1_ : List Y1) : Option Y2 := (wtd a2_ a3_ a4_ a1_).ev
noncomputable def wtf (a1_ : Int) : Tr (Int) :=
 .c (Int) (wnz (wrap .u64 a1_)) fun r1_ =>
 .g (decide (0 ≤ r1_)) <|
 .l (wrap .u64 ((1 : Int) * 2 ^ (min (toNat r1_) Zb)))
noncomputable def wtg (a1_ : Int) : Option (Int) := (wtf a1_).ev
noncomputable def wth (a1_ : Int) : Tr Yf :=
 .g (decide ((0 : Int) ≤ (13 : Int))) <|
 .g (decide ((0 : Int) ≤ (7 : Int))) <|
 .g (decide ((0 : Int) ≤ (17 : Int))) <|
 .l ((wrap .u64 (BitVec.toNat ((BitVec.ofInt Zb (wrap .u64 (BitVec.toNat ((BitVec.ofInt Zb (wrap .u64 (BitVec.toNat ((BitVec.ofInt Zb a1_) ^^^ (BitVec.ofInt Zb (wrap .u64 (a1_ * 2 ^ (min (toNat 13) Zb)))))))) ^^^ (BitVec.ofInt Zb (Int.fdiv (wrap .u64 (BitVec.toNat ((BitVec.ofInt Zb a1_) ^^^ (BitVec.ofInt Zb (wrap .u64 (a1_ * 2 ^ (min (toNat 13) Zb))))))) (2 ^ (min (toNat 7) Zb)))))))) ^^^ (BitVec.ofInt Zb (wrap .u64 ((wrap .u64 (BitVec.toNat ((BitVec.ofInt Zb (wrap .u64 (BitVec.toNat ((BitVec.ofInt Zb a1_) ^^^ (BitVec.ofInt Zb (wrap .u64 (a1_ * 2 ^ (min (toNat 13) Zb)))))))) ^^^ (BitVec.ofInt Zb (Int.fdiv (wrap .u64 (BitVec.toNat ((BitVec.ofInt Zb a1_) ^^^ (BitVec.ofInt Zb (wrap .u64 (a1_ * 2 ^ (min (toNat 13) Zb))))))) (2 ^ (min (toNat 7) Zb))))))) * 2 ^ (min (toNat 17) Zb))))))), (wrap .u64 (BitVec.toNat ((BitVec.ofInt Zb (wrap .u64 (BitVec.toNat ((BitVec.ofInt Zb (wrap .u64 (BitVec.toNat ((BitVec.ofInt Zb a1_) ^^^ (BitVec.ofInt Zb (wrap .u64 (a1_ * 2 ^ (min (toNat 13) Zb)))))))) ^^^ (BitVec.ofInt Zb (Int.fdiv (wrap .u64 (BitVec.toNat ((BitVec.ofInt Zb a1_) ^^^ (BitVec.ofInt Zb (wrap .u64 (a1_ * 2 ^ (min (toNat 13) Zb))))))) (2 ^ (min (toNat 7) Zb)))))))) ^^^ (BitVec.ofInt Zb (wrap .u64 ((wrap .u64 (BitVec.toNat ((BitVec.ofInt Zb (wrap .u64 (BitVec.toNat ((BitVec.ofInt Zb a1_) ^^^ (BitVec.ofInt Zb (wrap .u64 (a1_ * 2 ^ (min (toNat 13) Zb)))))))) ^^^ (BitVec.ofInt Zb (Int.fdiv (wrap .u64 (BitVec.toNat ((BitVec.ofInt Zb a1_) ^^^ (BitVec.ofInt Zb (wrap .u64 (a1_ * 2 ^ (min (toNat 13) Zb))))))) (2 ^ (min (toNat 7) Zb))))))) * 2 ^ (min (toNat 17) Zb))))))))
noncomputable def wti (a1_ : Int) : Option Yf := (wth a1_).ev
noncomputable def wgt (k : Int × Yf) (v : Int × (Y2 × Int)) : Tr ((Int × (Y2 × Int)) ⊕ Y2) :=
 .g (!decide ((4 : Int) = 0)) <|
 .t (decide (v.1 ≤ (wrap .i64 ((wrap .i64 (k.1 + (wrap .i64 ((wrap .i64 (Int.tdiv k.2.1 (4 : Int))) * (2 : Int))))) + 1))))
 (.c Yf (wti v.2.2) fun r8_ =>
 .t (decide (k.2.1 ≤ (wrap .i64 (wrap .u64 (BitVec.toNat ((BitVec.ofInt Zb r8_.1) &&& (BitVec.ofInt Zb (wrap .u64 (k.2.2 - 1)))))))))
 (.g (inR (wrap .i64 (k.1 + (wrap .i64 ((wrap .i64 (wrap .u64 (BitVec.toNat ((BitVec.ofInt Zb r8_.1) &&& (BitVec.ofInt Zb (wrap .u64 (k.2.2 - 1))))))) - k.2.1)))) (length v.2.1)) <|
 .g (decide ((toNat (wrap .i64 (k.1 + (wrap .i64 ((wrap .i64 (wrap .u64 (BitVec.toNat ((BitVec.ofInt Zb r8_.1) &&& (BitVec.ofInt Zb (wrap .u64 (k.2.2 - 1))))))) - k.2.1))))) < length v.2.1)) <|
 .g (inR v.1 (length v.2.1)) <|
 .g (decide ((toNat v.1) < length v.2.1)) <|
 .g (inR v.1 (length v.2.1)) <|
 .g (decide ((toNat v.1) < length v.2.1)) <|
 .g (inR (wrap .i64 (k.1 + (wrap .i64 ((wrap .i64 (wrap .u64 (BitVec.toNat ((BitVec.ofInt Zb r8_.1) &&& (BitVec.ofInt Zb (wrap .u64 (k.2.2 - 1))))))) - k.2.1)))) (length (set v.2.1 (toNat v.1) (getD v.2.1 (toNat (wrap .i64 (k.1 + (wrap .i64 ((wrap .i64 (wrap .u64 (BitVec.toNat ((BitVec.ofInt Zb r8_.1) &&& (BitVec.ofInt Zb (wrap .u64 (k.2.2 - 1))))))) - k.2.1))))) ([] : Y1))))) <|
 .g (decide ((toNat (wrap .i64 (k.1 + (wrap .i64 ((wrap .i64 (wrap .u64 (BitVec.toNat ((BitVec.ofInt Zb r8_.1) &&& (BitVec.ofInt Zb (wrap .u64 (k.2.2 - 1))))))) - k.2.1))))) < length (set v.2.1 (toNat v.1) (getD v.2.1 (toNat (wrap .i64 (k.1 + (wrap .i64 ((wrap .i64 (wrap .u64 (BitVec.toNat ((BitVec.ofInt Zb r8_.1) &&& (BitVec.ofInt Zb (wrap .u64 (k.2.2 - 1))))))) - k.2.1))))) ([] : Y1))))) <|
 .l (.inl ((wrap .i64 (v.1 + 1)), ((set (set v.2.1 (toNat v.1) (getD v.2.1 (toNat (wrap .i64 (k.1 + (wrap .i64 ((wrap .i64 (wrap .u64 (BitVec.toNat ((BitVec.ofInt Zb r8_.1) &&& (BitVec.ofInt Zb (wrap .u64 (k.2.2 - 1))))))) - k.2.1))))) ([] : Y1))) (toNat (wrap .i64 (k.1 + (wrap .i64 ((wrap .i64 (wrap .u64 (BitVec.toNat ((BitVec.ofInt Zb r8_.1) &&& (BitVec.ofInt Zb (wrap .u64 (k.2.2 - 1))))))) - k.2.1))))) (getD v.2.1 (toNat v.1) ([] : Y1))), r8_.2))))
 (.g (inR (wrap .i64 (k.1 + (wrap .i64 (wrap .u64 (BitVec.toNat ((BitVec.ofInt Zb r8_.1) &&& (BitVec.ofInt Zb (wrap .u64 (k.2.2 - 1))))))))) (length v.2.1)) <|
 .g (decide ((toNat (wrap .i64 (k.1 + (wrap .i64 (wrap .u64 (BitVec.toNat ((BitVec.ofInt Zb r8_.1) &&& (BitVec.ofInt Zb (wrap .u64 (k.2.2 - 1)))))))))) < length v.2.1)) <|
 .g (inR v.1 (length v.2.1)) <|
 .g (decide ((toNat v.1) < length v.2.1)) <|
 .g (inR v.1 (length v.2.1)) <|
 .g (decide ((toNat v.1) < length v.2.1)) <|
 .g (inR (wrap .i64 (k.1 + (wrap .i64 (wrap .u64 (BitVec.toNat ((BitVec.ofInt Zb r8_.1) &&& (BitVec.ofInt Zb (wrap .u64 (k.2.2 - 1))))))))) (length (set v.2.1 (toNat v.1) (getD v.2.1 (toNat (wrap .i64 (k.1 + (wrap .i64 (wrap .u64 (BitVec.toNat ((BitVec.ofInt Zb r8_.1) &&& (BitVec.ofInt Zb (wrap .u64 (k.2.2 - 1)))))))))) ([] : Y1))))) <|
 .g (decide ((toNat (wrap .i64 (k.1 + (wrap .i64 (wrap .u64 (BitVec.toNat ((BitVec.ofInt Zb r8_.1) &&& (BitVec.ofInt Zb (wrap .u64 (k.2.2 - 1)))))))))) < length (set v.2.1 (toNat v.1) (getD v.2.1 (toNat (wrap .i64 (k.1 + (wrap .i64 (wrap .u64 (BitVec.toNat ((BitVec.ofInt Zb r8_.1) &&& (BitVec.ofInt Zb (wrap .u64 (k.2.2 - 1)))))))))) ([] : Y1))))) <|
 .l (.inl ((wrap .i64 (v.1 + 1)), ((set (set v.2.1 (toNat v.1) (getD v.2.1 (toNat (wrap .i64 (k.1 + (wrap .i64 (wrap .u64 (BitVec.toNat ((BitVec.ofInt Zb r8_.1) &&& (BitVec.ofInt Zb (wrap .u64 (k.2.2 - 1)))))))))) ([] : Y1))) (toNat (wrap .i64 (k.1 + (wrap .i64 (wrap .u64 (BitVec.toNat ((BitVec.ofInt Zb r8_.1) &&& (BitVec.ofInt Zb (wrap .u64 (k.2.2 - 1)))))))))) (getD v.2.1 (toNat v.1) ([] : Y1))), r8_.2)))))
 (.l (.inr v.2.1))
noncomputable def wgu (k : Int × Yf) (v : Int × (Y2 × Int)) : Option Y2 := iterN (fun v => (wgt k v).ev) 200 v
noncomputable def wtj (a2_ : Int) (a3_ : Int) (_a4_ : Yd) (a1_ : List Y1) : Tr Y2 :=
 .t (decide ((8 : Int) ≤ (wrap .i64 (a3_ - a2_))))
 (.c (Int) (wtg (wrap .i64 (a3_ - a2_))) fun r1_ =>
 .g (!decide ((4 : Int) = 0)) <|
 .c Y2 (wgu (a2_, ((wrap .i64 (a3_ - a2_)), r1_)) ((wrap .i64 ((wrap .i64 (a2_ + (wrap .i64 ((wrap .i64 (Int.tdiv (wrap .i64 (a3_ - a2_)) (4 : Int))) * (2 : Int))))) - 1)), (a1_, (wrap .u64 (wrap .i64 (a3_ - a2_)))))) fun r10_ =>
 .l r10_)
 (.l a1_)
noncomputable def wtk (a2_ : Int) (a3_ : Int) (a4_ : Yd) (a1_ : List Y1) : Option Y2 := (wtj a2_ a3_ a4_ a1_).ev
noncomputable def wtl (a1_ : List Y1) (a2_ : Int) (a3_ : Int) (a5_ : Yd) (a4_ : Int) : Tr (Int × Yf) :=
 .g (inR a3_ (length a1_)) <|
 .g (inR a2_ (length a1_)) <|
 .c (Int) (a5_ ((getD a1_ (toNat a3_) ([] : Y1)), ((getD a1_ (toNat a2_) ([] : Y1)), ()))) fun r1_ =>
 .t (decide (r1_ < 0))
 (.l (a3_, (a2_, (wrap .i64 (a4_ + 1)))))
 (.l (a2_, (a3_, a4_)))
noncomputable def wiu (a1_ : List Y1) (a2_ : Int) (a3_ : Int) (a5_ : Yd) (a4_ : Int) : Option (Int × Yf) := (wtl a1_ a2_ a3_ a5_ a4_).ev
noncomputable def wtm (a1_ : List Y1) (a2_ : Int) (a3_ : Int) (a4_ : Int) (a6_ : Yd) (a5_ : Int) : Tr Yf :=
 .c (Int × Yf) (wiu a1_ a2_ a3_ a6_ a5_) fun r1_ =>
 .c (Int × Yf) (wiu a1_ r1_.2.1 a4_ a6_ r1_.2.2) fun r2_ =>
 .c (Int × Yf) (wiu a1_ r1_.1 r2_.1 a6_ r2_.2.2) fun r3_ =>
 .l (r3_.2.1, r3_.2.2)
noncomputable def wiv (a1_ : List Y1) (a2_ : Int) (a3_ : Int) (a4_ : Int) (a6_ : Yd) (a5_ : Int) : Option Yf := (wtm a1_ a2_ a3_ a4_ a6_ a5_).ev
noncomputable def wtn (a1_ : List Y1) (a2_ : Int) (a4_ : Yd) (a3_ : Int) : Tr Yf :=
 .c Yf (wiv a1_ (wrap .i64 (a2_ - 1)) a2_ (wrap .i64 (a2_ + 1)) a4_ a3_) fun r1_ =>
 .l (r1_.1, r1_.2)
noncomputable def wiw (a1_ : List Y1) (a2_ : Int) (a4_ : Yd) (a3_ : Int) : Option Yf := (wtn a1_ a2_ a4_ a3_).ev
noncomputable def wto (a1_ : List Y1) (a2_ : Int) (a3_ : Int) (a4_ : Yd) : Tr Yf :=
 .g (!decide ((4 : Int) = 0)) <|
 .g (!decide ((4 : Int) = 0)) <|
 .g (!decide ((4 : Int) = 0)) <|
 .t (decide ((8 : Int) ≤ (wrap .i64 (a3_ - a2_))))
 (.t (decide ((50 : Int) ≤ (wrap .i64 (a3_ - a2_))))
 (.c Yf (wiw a1_ (wrap .i64 (a2_ + (wrap .i64 ((wrap .i64 (Int.tdiv (wrap .i64 (a3_ - a2_)) (4 : Int))) * (1 : Int))))) a4_ (0 : Int)) fun r1_ =>
 .c Yf (wiw a1_ (wrap .i64 (a2_ + (wrap .i64 ((wrap .i64 (Int.tdiv (wrap .i64 (a3_ - a2_)) (4 : Int))) * (2 : Int))))) a4_ r1_.2) fun r2_ =>
 .c Yf (wiw a1_ (wrap .i64 (a2_ + (wrap .i64 ((wrap .i64 (Int.tdiv (wrap .i64 (a3_ - a2_)) (4 : Int))) * (3 : Int))))) a4_ r2_.2) fun r3_ =>
 .c Yf (wiv a1_ r1_.1 r2_.1 r3_.1 a4_ r3_.2) fun r4_ =>
 .t (r4_.2 == 0)
 (.l (r4_.1, (1 : Int)))
 (.t (r4_.2 == 12)
 (.l (r4_.1, (2 : Int)))
 (.l (r4_.1, (0 : Int)))))
 (.c Yf (wiv a1_ (wrap .i64 (a2_ + (wrap .i64 ((wrap .i64 (Int.tdiv (wrap .i64 (a3_ - a2_)) (4 : Int))) * (1 : Int))))) (wrap .i64 (a2_ + (wrap .i64 ((wrap .i64 (Int.tdiv (wrap .i64 (a3_ - a2_)) (4 : Int))) * (2 : Int))))) (wrap .i64 (a2_ + (wrap .i64 ((wrap .i64 (Int.tdiv (wrap .i64 (a3_ - a2_)) (4 : Int))) * (3 : Int))))) a4_ (0 : Int)) fun r5_ =>
 .t (r5_.2 == 0)
 (.l (r5_.1, (1 : Int)))
 (.t (r5_.2 == 12)
 (.l (r5_.1, (2 : Int)))
 (.l (r5_.1, (0 : Int))))))
 (.t ((0 : Int) == (0 : Int))
 (.l ((wrap .i64 (a2_ + (wrap .i64 ((wrap .i64 (Int.tdiv (wrap .i64 (a3_ - a2_)) (4 : Int))) * (2 : Int))))), (1 : Int)))
 (.t ((0 : Int) == (12 : Int))
 (.l ((wrap .i64 (a2_ + (wrap .i64 ((wrap .i64 (Int.tdiv (wrap .i64 (a3_ - a2_)) (4 : Int))) * (2 : Int))))), (2 : Int)))
 (.l ((wrap .i64 (a2_ + (wrap .i64 ((wrap .i64 (Int.tdiv (wrap .i64 (a3_ - a2_)) (4 : Int))) * (2 : Int))))), (0 : Int)))))
noncomputable def woa (a1_ : List Y1) (a2_ : Int) (a3_ : Int) (a4_ : Yd) : Option Yf := (wto a1_ a2_ a3_ a4_).ev
noncomputable def wgv (k : Int × Yal) (v : Int) : Tr ((Int) ⊕ (Int)) :=
 .t (decide (v ≤ k.2.2.1))
 (.g (inR v (length k.2.2.2)) <|
 .g (decide ((toNat v) < length k.2.2.2)) <|
 .g (inR k.1 (length k.2.2.2)) <|
 .g (decide ((toNat k.1) < length k.2.2.2)) <|
 .c (Int) (k.2.1 ((getD k.2.2.2 (toNat v) ([] : Y1)), ((getD k.2.2.2 (toNat k.1) ([] : Y1)), ()))) fun r6_ =>
 .t (decide (r6_ < 0))
 (.l (.inl (wrap .i64 (v + 1))))
 (.l (.inr v)))
 (.l (.inr v))
noncomputable def wgw (k : Int × Yal) (v : Int) : Option (Int) := iterN (fun v => (wgv k v).ev) 200 v
noncomputable def wgx (k : Int × Yal) (v : Int) : Tr ((Int) ⊕ (Int)) :=
 .t (decide (k.2.2.1 ≤ v))
 (.g (inR v (length k.2.2.2)) <|
 .g (decide ((toNat v) < length k.2.2.2)) <|
 .g (inR k.1 (length k.2.2.2)) <|
 .g (decide ((toNat k.1) < length k.2.2.2)) <|
 .c (Int) (k.2.1 ((getD k.2.2.2 (toNat v) ([] : Y1)), ((getD k.2.2.2 (toNat k.1) ([] : Y1)), ()))) fun r18_ =>
 .t (!(decide (r18_ < 0)))
 (.l (.inl (wrap .i64 (v - 1))))
 (.l (.inr v)))
 (.l (.inr v))
noncomputable def wgy (k : Int × Yal) (v : Int) : Option (Int) := iterN (fun v => (wgx k v).ev) 200 v
noncomputable def wgz (k : Int × Yal) (v : Int) : Tr ((Int) ⊕ (Int)) :=
 .t (decide (v ≤ k.2.2.1))
 (.g (inR v (length k.2.2.2)) <|
 .g (decide ((toNat v) < length k.2.2.2)) <|
 .g (inR k.1 (length k.2.2.2)) <|
 .g (decide ((toNat k.1) < length k.2.2.2)) <|
 .c (Int) (k.2.1 ((getD k.2.2.2 (toNat v) ([] : Y1)), ((getD k.2.2.2 (toNat k.1) ([] : Y1)), ()))) fun r35_ =>
 .t (decide (r35_ < 0))
 (.l (.inl (wrap .i64 (v + 1))))
 (.l (.inr v)))
 (.l (.inr v))
noncomputable def wha (k : Int × Yal) (v : Int) : Option (Int) := iterN (fun v => (wgz k v).ev) 200 v
noncomputable def whb (k : Int × Yal) (v : Int) : Tr ((Int) ⊕ (Int)) :=
 .t (decide (k.2.2.1 ≤ v))
 (.g (inR v (length k.2.2.2)) <|
 .g (decide ((toNat v) < length k.2.2.2)) <|
 .g (inR k.1 (length k.2.2.2)) <|
 .g (decide ((toNat k.1) < length k.2.2.2)) <|
 .c (Int) (k.2.1 ((getD k.2.2.2 (toNat v) ([] : Y1)), ((getD k.2.2.2 (toNat k.1) ([] : Y1)), ()))) fun r47_ =>
 .t (!(decide (r47_ < 0)))
 (.l (.inl (wrap .i64 (v - 1))))
 (.l (.inr v)))
 (.l (.inr v))
noncomputable def whc (k : Int × Yal) (v : Int) : Option (Int) := iterN (fun v => (whb k v).ev) 200 v
noncomputable def whd (k : Int × (Yd)) (v : Int × Yl) : Tr ((Int × Yl) ⊕ Yl) :=
 .c (Int) (wha (k.1, (k.2, (v.2.1, v.2.2))) v.1) fun r41_ =>
 .c (Int) (whc (k.1, (k.2, (r41_, v.2.2))) v.2.1) fun r53_ =>
 .t (decide (r53_ < r41_))
 (.l (.inr (r53_, v.2.2)))
 (.g (inR r53_ (length v.2.2)) <|
 .g (decide ((toNat r53_) < length v.2.2)) <|
 .g (inR r41_ (length v.2.2)) <|
 .g (decide ((toNat r41_) < length v.2.2)) <|
 .g (inR r41_ (length v.2.2)) <|
 .g (decide ((toNat r41_) < length v.2.2)) <|
 .g (inR r53_ (length (set v.2.2 (toNat r41_) (getD v.2.2 (toNat r53_) ([] : Y1))))) <|
 .g (decide ((toNat r53_) < length (set v.2.2 (toNat r41_) (getD v.2.2 (toNat r53_) ([] : Y1))))) <|
 .l (.inl ((wrap .i64 (r41_ + 1)), ((wrap .i64 (r53_ - 1)), (set (set v.2.2 (toNat r41_) (getD v.2.2 (toNat r53_) ([] : Y1))) (toNat r53_) (getD v.2.2 (toNat r41_) ([] : Y1)))))))
noncomputable def whe (k : Int × (Yd)) (v : Int × Yl) : Option Yl := iterN (fun v => (whd k v).ev) 200 v
noncomputable def wtp (a2_ : Int) (a3_ : Int) (a4_ : Int) (a5_ : Yd) (a1_ : List Y1) : Tr Yp :=
 .g (inR a4_ (length a1_)) <|
 .g (decide ((toNat a4_) < length a1_)) <|
 .g (inR a2_ (length a1_)) <|
 .g (decide ((toNat a2_) < length a1_)) <|
 .g (inR a2_ (length a1_)) <|
 .g (decide ((toNat a2_) < length a1_)) <|
 .g (inR a4_ (length (set a1_ (toNat a2_) (getD a1_ (toNat a4_) ([] : Y1))))) <|
 .g (decide ((toNat a4_) < length (set a1_ (toNat a2_) (getD a1_ (toNat a4_) ([] : Y1))))) <|
 .c (Int) (wgw (a2_, (a5_, ((wrap .i64 (a3_ - 1)), (set (set a1_ (toNat a2_) (getD a1_ (toNat a4_) ([] : Y1))) (toNat a4_) (getD a1_ (toNat a2_) ([] : Y1)))))) (wrap .i64 (a2_ + 1))) fun r12_ =>
 .c (Int) (wgy (a2_, (a5_, (r12_, (set (set a1_ (toNat a2_) (getD a1_ (toNat a4_) ([] : Y1))) (toNat a4_) (getD a1_ (toNat a2_) ([] : Y1)))))) (wrap .i64 (a3_ - 1))) fun r24_ =>
 .t (decide (r24_ < r12_))
 (.g (inR a2_ (length (set (set a1_ (toNat a2_) (getD a1_ (toNat a4_) ([] : Y1))) (toNat a4_) (getD a1_ (toNat a2_) ([] : Y1))))) <|
 .g (decide ((toNat a2_) < length (set (set a1_ (toNat a2_) (getD a1_ (toNat a4_) ([] : Y1))) (toNat a4_) (getD a1_ (toNat a2_) ([] : Y1))))) <|
 .g (inR r24_ (length (set (set a1_ (toNat a2_) (getD a1_ (toNat a4_) ([] : Y1))) (toNat a4_) (getD a1_ (toNat a2_) ([] : Y1))))) <|
 .g (decide ((toNat r24_) < length (set (set a1_ (toNat a2_) (getD a1_ (toNat a4_) ([] : Y1))) (toNat a4_) (getD a1_ (toNat a2_) ([] : Y1))))) <|
 .g (inR r24_ (length (set (set a1_ (toNat a2_) (getD a1_ (toNat a4_) ([] : Y1))) (toNat a4_) (getD a1_ (toNat a2_) ([] : Y1))))) <|
 .g (decide ((toNat r24_) < length (set (set a1_ (toNat a2_) (getD a1_ (toNat a4_) ([] : Y1))) (toNat a4_) (getD a1_ (toNat a2_) ([] : Y1))))) <|
 .g (inR a2_ (length (set (set (set a1_ (toNat a2_) (getD a1_ (toNat a4_) ([] : Y1))) (toNat a4_) (getD a1_ (toNat a2_) ([] : Y1))) (toNat r24_) (getD (set (set a1_ (toNat a2_) (getD a1_ (toNat a4_) ([] : Y1))) (toNat a4_) (getD a1_ (toNat a2_) ([] : Y1))) (toNat a2_) ([] : Y1))))) <|
 .g (decide ((toNat a2_) < length (set (set (set a1_ (toNat a2_) (getD a1_ (toNat a4_) ([] : Y1))) (toNat a4_) (getD a1_ (toNat a2_) ([] : Y1))) (toNat r24_) (getD (set (set a1_ (toNat a2_) (getD a1_ (toNat a4_) ([] : Y1))) (toNat a4_) (getD a1_ (toNat a2_) ([] : Y1))) (toNat a2_) ([] : Y1))))) <|
 .l (r24_, (true, (set (set (set (set a1_ (toNat a2_) (getD a1_ (toNat a4_) ([] : Y1))) (toNat a4_) (getD a1_ (toNat a2_) ([] : Y1))) (toNat r24_) (getD (set (set a1_ (toNat a2_) (getD a1_ (toNat a4_) ([] : Y1))) (toNat a4_) (getD a1_ (toNat a2_) ([] : Y1))) (toNat a2_) ([] : Y1))) (toNat a2_) (getD (set (set a1_ (toNat a2_) (getD a1_ (toNat a4_) ([] : Y1))) (toNat a4_) (getD a1_ (toNat a2_) ([] : Y1))) (toNat r24_) ([] : Y1))))))
 (.g (inR r24_ (length (set (set a1_ (toNat a2_) (getD a1_ (toNat a4_) ([] : Y1))) (toNat a4_) (getD a1_ (toNat a2_) ([] : Y1))))) <|
 .g (decide ((toNat r24_) < length (set (set a1_ (toNat a2_) (getD a1_ (toNat a4_) ([] : Y1))) (toNat a4_) (getD a1_ (toNat a2_) ([] : Y1))))) <|
 .g (inR r12_ (length (set (set a1_ (toNat a2_) (getD a1_ (toNat a4_) ([] : Y1))) (toNat a4_) (getD a1_ (toNat a2_) ([] : Y1))))) <|
 .g (decide ((toNat r12_) < length (set (set a1_ (toNat a2_) (getD a1_ (toNat a4_) ([] : Y1))) (toNat a4_) (getD a1_ (toNat a2_) ([] : Y1))))) <|
 .g (inR r12_ (length (set (set a1_ (toNat a2_) (getD a1_ (toNat a4_) ([] : Y1))) (toNat a4_) (getD a1_ (toNat a2_) ([] : Y1))))) <|
 .g (decide ((toNat r12_) < length (set (set a1_ (toNat a2_) (getD a1_ (toNat a4_) ([] : Y1))) (toNat a4_) (getD a1_ (toNat a2_) ([] : Y1))))) <|
 .g (inR r24_ (length (set (set (set a1_ (toNat a2_) (getD a1_ (toNat a4_) ([] : Y1))) (toNat a4_) (getD a1_ (toNat a2_) ([] : Y1))) (toNat r12_) (getD (set (set a1_ (toNat a2_) (getD a1_ (toNat a4_) ([] : Y1))) (toNat a4_) (getD a1_ (toNat a2_) ([] : Y1))) (toNat r24_) ([] : Y1))))) <|
 .g (decide ((toNat r24_) < length (set (set (set a1_ (toNat a2_) (getD a1_ (toNat a4_) ([] : Y1))) (toNat a4_) (getD a1_ (toNat a2_) ([] : Y1))) (toNat r12_) (getD (set (set a1_ (toNat a2_) (getD a1_ (toNat a4_) ([] : Y1))) (toNat a4_) (getD a1_ (toNat a2_) ([] : Y1))) (toNat r24_) ([] : Y1))))) <|
 .c Yl (whe (a2_, a5_) ((wrap .i64 (r12_ + 1)), ((wrap .i64 (r24_ - 1)), (set (set (set (set a1_ (toNat a2_) (getD a1_ (toNat a4_) ([] : Y1))) (toNat a4_) (getD a1_ (toNat a2_) ([] : Y1))) (toNat r12_) (getD (set (set a1_ (toNat a2_) (getD a1_ (toNat a4_) ([] : Y1))) (toNat a4_) (getD a1_ (toNat a2_) ([] : Y1))) (toNat r24_) ([] : Y1))) (toNat r24_) (getD (set (set a1_ (toNat a2_) (getD a1_ (toNat a4_) ([] : Y1))) (toNat a4_) (getD a1_ (toNat a2_) ([] : Y1))) (toNat r12_) ([] : Y1)))))) fun r57_ =>
 .g (inR a2_ (length r57_.2)) <|
 .g (decide ((toNat a2_) < length r57_.2)) <|
 .g (inR r57_.1 (length r57_.2)) <|
 .g (decide ((toNat r57_.1) < length r57_.2)) <|
 .g (inR r57_.1 (length r57_.2)) <|
 .g (decide ((toNat r57_.1) < length r57_.2)) <|
 .g (inR a2_ (length (set r57_.2 (toNat r57_.1) (getD r57_.2 (toNat a2_) ([] : Y1))))) <|
 .g (decide ((toNat a2_) < length (set r57_.2 (toNat r57_.1) (getD r57_.2 (toNat a2_) ([] : Y1))))) <|
 .l (r57_.1, (false, (set (set r57_.2 (toNat r57_.1) (getD r57_.2 (toNat a2_) ([] : Y1))) (toNat a2_) (getD r57_.2 (toNat r57_.1) ([] : Y1))))))
noncomputable def wam (a2_ : Int) (a3_ : Int) (a4_ : Int) (a5_ : Yd) (a1_ : List Y1) : Option Yp := (wtp a2_ a3_ a4_ a5_ a1_).ev
noncomputable def whf (rec_ : (Int) → (Int) → (Int) → (Yd) → Y2 → Option Y2) (k : Yd) (v : Int × Yw) : Tr ((Int × Yw) ⊕ Y2) :=
 .t (decide ((wrap .i64 (v.2.1 - v.1)) ≤ (12 : Int)))
 (.c Y2 (wte v.1 v.2.1 k v.2.2.2.2.2) fun r8_ =>
 .l (.inr r8_))
 (.t (v.2.2.1 == 0)
 (.f)
 (.t (!v.2.2.2.1)
 (.c Y2 (wtk v.1 v.2.1 k v.2.2.2.2.2) fun r9_ =>
 .c Yf (woa r9_ v.1 v.2.1 k) fun r10_ =>
 .t (r10_.2 == 2)
 (.f)
 (.t v.2.2.2.1
 (.t v.2.2.2.2.1
 (.t (r10_.2 == 1)
 (.f)
 (.t (decide (0 < v.1))
 (.g (inR (wrap .i64 (v.1 - 1)) (length r9_)) <|
 .g (decide ((toNat (wrap .i64 (v.1 - 1))) < length r9_)) <|
 .g (inR r10_.1 (length r9_)) <|
 .g (decide ((toNat r10_.1) < length r9_)) <|
 .c (Int) (k ((getD r9_ (toNat (wrap .i64 (v.1 - 1))) ([] : Y1)), ((getD r9_ (toNat r10_.1) ([] : Y1)), ()))) fun r11_ =>
 .t (!(decide (r11_ < 0)))
 (.f)
 (.c Yp (wam v.1 v.2.1 r10_.1 k r9_) fun r12_ =>
 .g (!decide ((8 : Int) = 0)) <|
 .t (decide ((wrap .i64 (r12_.1 - v.1)) < (wrap .i64 (v.2.1 - r12_.1))))
 (.c Y2 (rec_ v.1 r12_.1 (wrap .i64 (v.2.2.1 - 1)) k r12_.2.2) fun r13_ =>
 .l (.inl ((wrap .i64 (r12_.1 + 1)), (v.2.1, ((wrap .i64 (v.2.2.1 - 1)), ((decide ((wrap .i64 (Int.tdiv (wrap .i64 (v.2.1 - v.1)) (8 : Int))) ≤ (wrap .i64 (r12_.1 - v.1)))), (r12_.2.1, r13_)))))))
 (.c Y2 (rec_ (wrap .i64 (r12_.1 + 1)) v.2.1 (wrap .i64 (v.2.2.1 - 1)) k r12_.2.2) fun r14_ =>
 .l (.inl (v.1, (r12_.1, ((wrap .i64 (v.2.2.1 - 1)), ((decide ((wrap .i64 (Int.tdiv (wrap .i64 (v.2.1 - v.1)) (8 : Int))) ≤ (wrap .i64 (v.2.1 - r12_.1)))), (r12_.2.1, r14_)))))))))
 (.c Yp (wam v.1 v.2.1 r10_.1 k r9_) fun r15_ =>
 .g (!decide ((8 : Int) = 0)) <|
 .t (decide ((wrap .i64 (r15_.1 - v.1)) < (wrap .i64 (v.2.1 - r15_.1))))
 (.c Y2 (rec_ v.1 r15_.1 (wrap .i64 (v.2.2.1 - 1)) k r15_.2.2) fun r16_ =>
 .l (.inl ((wrap .i64 (r15_.1 + 1)), (v.2.1, ((wrap .i64 (v.2.2.1 - 1)), ((decide ((wrap .i64 (Int.tdiv (wrap .i64 (v.2.1 - v.1)) (8 : Int))) ≤ (wrap .i64 (r15_.1 - v.1)))), (r15_.2.1, r16_)))))))
 (.c Y2 (rec_ (wrap .i64 (r15_.1 + 1)) v.2.1 (wrap .i64 (v.2.2.1 - 1)) k r15_.2.2) fun r17_ =>
 .l (.inl (v.1, (r15_.1, ((wrap .i64 (v.2.2.1 - 1)), ((decide ((wrap .i64 (Int.tdiv (wrap .i64 (v.2.1 - v.1)) (8 : Int))) ≤ (wrap .i64 (v.2.1 - r15_.1)))), (r15_.2.1, r17_))))))))))
 (.t (decide (0 < v.1))
 (.g (inR (wrap .i64 (v.1 - 1)) (length r9_)) <|
 .g (decide ((toNat (wrap .i64 (v.1 - 1))) < length r9_)) <|
 .g (inR r10_.1 (length r9_)) <|
 .g (decide ((toNat r10_.1) < length r9_)) <|
 .c (Int) (k ((getD r9_ (toNat (wrap .i64 (v.1 - 1))) ([] : Y1)), ((getD r9_ (toNat r10_.1) ([] : Y1)), ()))) fun r18_ =>
 .t (!(decide (r18_ < 0)))
 (.f)
 (.c Yp (wam v.1 v.2.1 r10_.1 k r9_) fun r19_ =>
 .g (!decide ((8 : Int) = 0)) <|
 .t (decide ((wrap .i64 (r19_.1 - v.1)) < (wrap .i64 (v.2.1 - r19_.1))))
 (.c Y2 (rec_ v.1 r19_.1 (wrap .i64 (v.2.2.1 - 1)) k r19_.2.2) fun r20_ =>
 .l (.inl ((wrap .i64 (r19_.1 + 1)), (v.2.1, ((wrap .i64 (v.2.2.1 - 1)), ((decide ((wrap .i64 (Int.tdiv (wrap .i64 (v.2.1 - v.1)) (8 : Int))) ≤ (wrap .i64 (r19_.1 - v.1)))), (r19_.2.1, r20_)))))))
 (.c Y2 (rec_ (wrap .i64 (r19_.1 + 1)) v.2.1 (wrap .i64 (v.2.2.1 - 1)) k r19_.2.2) fun r21_ =>
 .l (.inl (v.1, (r19_.1, ((wrap .i64 (v.2.2.1 - 1)), ((decide ((wrap .i64 (Int.tdiv (wrap .i64 (v.2.1 - v.1)) (8 : Int))) ≤ (wrap .i64 (v.2.1 - r19_.1)))), (r19_.2.1, r21_)))))))))
 (.c Yp (wam v.1 v.2.1 r10_.1 k r9_) fun r22_ =>
 .g (!decide ((8 : Int) = 0)) <|
 .t (decide ((wrap .i64 (r22_.1 - v.1)) < (wrap .i64 (v.2.1 - r22_.1))))
 (.c Y2 (rec_ v.1 r22_.1 (wrap .i64 (v.2.2.1 - 1)) k r22_.2.2) fun r23_ =>
 .l (.inl ((wrap .i64 (r22_.1 + 1)), (v.2.1, ((wrap .i64 (v.2.2.1 - 1)), ((decide ((wrap .i64 (Int.tdiv (wrap .i64 (v.2.1 - v.1)) (8 : Int))) ≤ (wrap .i64 (r22_.1 - v.1)))), (r22_.2.1, r23_)))))))
 (.c Y2 (rec_ (wrap .i64 (r22_.1 + 1)) v.2.1 (wrap .i64 (v.2.2.1 - 1)) k r22_.2.2) fun r24_ =>
 .l (.inl (v.1, (r22_.1, ((wrap .i64 (v.2.2.1 - 1)), ((decide ((wrap .i64 (Int.tdiv (wrap .i64 (v.2.1 - v.1)) (8 : Int))) ≤ (wrap .i64 (v.2.1 - r22_.1)))), (r22_.2.1, r24_))))))))))
 (.t (decide (0 < v.1))
 (.g (inR (wrap .i64 (v.1 - 1)) (length r9_)) <|
 .g (decide ((toNat (wrap .i64 (v.1 - 1))) < length r9_)) <|
 .g (inR r10_.1 (length r9_)) <|
 .g (decide ((toNat r10_.1) < length r9_)) <|
 .c (Int) (k ((getD r9_ (toNat (wrap .i64 (v.1 - 1))) ([] : Y1)), ((getD r9_ (toNat r10_.1) ([] : Y1)), ()))) fun r25_ =>
 .t (!(decide (r25_ < 0)))
 (.f)
 (.c Yp (wam v.1 v.2.1 r10_.1 k r9_) fun r26_ =>
 .g (!decide ((8 : Int) = 0)) <|
 .t (decide ((wrap .i64 (r26_.1 - v.1)) < (wrap .i64 (v.2.1 - r26_.1))))
 (.c Y2 (rec_ v.1 r26_.1 (wrap .i64 (v.2.2.1 - 1)) k r26_.2.2) fun r27_ =>
 .l (.inl ((wrap .i64 (r26_.1 + 1)), (v.2.1, ((wrap .i64 (v.2.2.1 - 1)), ((decide ((wrap .i64 (Int.tdiv (wrap .i64 (v.2.1 - v.1)) (8 : Int))) ≤ (wrap .i64 (r26_.1 - v.1)))), (r26_.2.1, r27_)))))))
 (.c Y2 (rec_ (wrap .i64 (r26_.1 + 1)) v.2.1 (wrap .i64 (v.2.2.1 - 1)) k r26_.2.2) fun r28_ =>
 .l (.inl (v.1, (r26_.1, ((wrap .i64 (v.2.2.1 - 1)), ((decide ((wrap .i64 (Int.tdiv (wrap .i64 (v.2.1 - v.1)) (8 : Int))) ≤ (wrap .i64 (v.2.1 - r26_.1)))), (r26_.2.1, r28_)))))))))
 (.c Yp (wam v.1 v.2.1 r10_.1 k r9_) fun r29_ =>
 .g (!decide ((8 : Int) = 0)) <|
 .t (decide ((wrap .i64 (r29_.1 - v.1)) < (wrap .i64 (v.2.1 - r29_.1))))
 (.c Y2 (rec_ v.1 r29_.1 (wrap .i64 (v.2.2.1 - 1)) k r29_.2.2) fun r30_ =>
 .l (.inl ((wrap .i64 (r29_.1 + 1)), (v.2.1, ((wrap .i64 (v.2.2.1 - 1)), ((decide ((wrap .i64 (Int.tdiv (wrap .i64 (v.2.1 - v.1)) (8 : Int))) ≤ (wrap .i64 (r29_.1 - v.1)))), (r29_.2.1, r30_)))))))
 (.c Y2 (rec_ (wrap .i64 (r29_.1 + 1)) v.2.1 (wrap .i64 (v.2.2.1 - 1)) k r29_.2.2) fun r31_ =>
 .l (.inl (v.1, (r29_.1, ((wrap .i64 (v.2.2.1 - 1)), ((decide ((wrap .i64 (Int.tdiv (wrap .i64 (v.2.1 - v.1)) (8 : Int))) ≤ (wrap .i64 (v.2.1 - r29_.1)))), (r29_.2.1, r31_)))))))))))
 (.c Yf (woa v.2.2.2.2.2 v.1 v.2.1 k) fun r32_ =>
 .t (r32_.2 == 2)
 (.f)
 (.t v.2.2.2.1
 (.t v.2.2.2.2.1
 (.t (r32_.2 == 1)
 (.f)
 (.t (decide (0 < v.1))
 (.g (inR (wrap .i64 (v.1 - 1)) (length v.2.2.2.2.2)) <|
 .g (decide ((toNat (wrap .i64 (v.1 - 1))) < length v.2.2.2.2.2)) <|
 .g (inR r32_.1 (length v.2.2.2.2.2)) <|
 .g (decide ((toNat r32_.1) < length v.2.2.2.2.2)) <|
 .c (Int) (k ((getD v.2.2.2.2.2 (toNat (wrap .i64 (v.1 - 1))) ([] : Y1)), ((getD v.2.2.2.2.2 (toNat r32_.1) ([] : Y1)), ()))) fun r33_ =>
 .t (!(decide (r33_ < 0)))
 (.f)
 (.c Yp (wam v.1 v.2.1 r32_.1 k v.2.2.2.2.2) fun r34_ =>
 .g (!decide ((8 : Int) = 0)) <|
 .t (decide ((wrap .i64 (r34_.1 - v.1)) < (wrap .i64 (v.2.1 - r34_.1))))
 (.c Y2 (rec_ v.1 r34_.1 v.2.2.1 k r34_.2.2) fun r35_ =>
 .l (.inl ((wrap .i64 (r34_.1 + 1)), (v.2.1, (v.2.2.1, ((decide ((wrap .i64 (Int.tdiv (wrap .i64 (v.2.1 - v.1)) (8 : Int))) ≤ (wrap .i64 (r34_.1 - v.1)))), (r34_.2.1, r35_)))))))
 (.c Y2 (rec_ (wrap .i64 (r34_.1 + 1)) v.2.1 v.2.2.1 k r34_.2.2) fun r36_ =>
 .l (.inl (v.1, (r34_.1, (v.2.2.1, ((decide ((wrap .i64 (Int.tdiv (wrap .i64 (v.2.1 - v.1)) (8 : Int))) ≤ (wrap .i64 (v.2.1 - r34_.1)))), (r34_.2.1, r36_)))))))))
 (.c Yp (wam v.1 v.2.1 r32_.1 k v.2.2.2.2.2) fun r37_ =>
 .g (!decide ((8 : Int) = 0)) <|
 .t (decide ((wrap .i64 (r37_.1 - v.1)) < (wrap .i64 (v.2.1 - r37_.1))))
 (.c Y2 (rec_ v.1 r37_.1 v.2.2.1 k r37_.2.2) fun r38_ =>
 .l (.inl ((wrap .i64 (r37_.1 + 1)), (v.2.1, (v.2.2.1, ((decide ((wrap .i64 (Int.tdiv (wrap .i64 (v.2.1 - v.1)) (8 : Int))) ≤ (wrap .i64 (r37_.1 - v.1)))), (r37_.2.1, r38_)))))))
 (.c Y2 (rec_ (wrap .i64 (r37_.1 + 1)) v.2.1 v.2.2.1 k r37_.2.2) fun r39_ =>
 .l (.inl (v.1, (r37_.1, (v.2.2.1, ((decide ((wrap .i64 (Int.tdiv (wrap .i64 (v.2.1 - v.1)) (8 : Int))) ≤ (wrap .i64 (v.2.1 - r37_.1)))), (r37_.2.1, r39_))))))))))
 (.t (decide (0 < v.1))
 (.g (inR (wrap .i64 (v.1 - 1)) (length v.2.2.2.2.2)) <|
 .g (decide ((toNat (wrap .i64 (v.1 - 1))) < length v.2.2.2.2.2)) <|
 .g (inR r32_.1 (length v.2.2.2.2.2)) <|
 .g (decide ((toNat r32_.1) < length v.2.2.2.2.2)) <|
 .c (Int) (k ((getD v.2.2.2.2.2 (toNat (wrap .i64 (v.1 - 1))) ([] : Y1)), ((getD v.2.2.2.2.2 (toNat r32_.1) ([] : Y1)), ()))) fun r40_ =>
 .t (!(decide (r40_ < 0)))
 (.f)
 (.c Yp (wam v.1 v.2.1 r32_.1 k v.2.2.2.2.2) fun r41_ =>
 .g (!decide ((8 : Int) = 0)) <|
 .t (decide ((wrap .i64 (r41_.1 - v.1)) < (wrap .i64 (v.2.1 - r41_.1))))
 (.c Y2 (rec_ v.1 r41_.1 v.2.2.1 k r41_.2.2) fun r42_ =>
 .l (.inl ((wrap .i64 (r41_.1 + 1)), (v.2.1, (v.2.2.1, ((decide ((wrap .i64 (Int.tdiv (wrap .i64 (v.2.1 - v.1)) (8 : Int))) ≤ (wrap .i64 (r41_.1 - v.1)))), (r41_.2.1, r42_)))))))
 (.c Y2 (rec_ (wrap .i64 (r41_.1 + 1)) v.2.1 v.2.2.1 k r41_.2.2) fun r43_ =>
 .l (.inl (v.1, (r41_.1, (v.2.2.1, ((decide ((wrap .i64 (Int.tdiv (wrap .i64 (v.2.1 - v.1)) (8 : Int))) ≤ (wrap .i64 (v.2.1 - r41_.1)))), (r41_.2.1, r43_)))))))))
 (.c Yp (wam v.1 v.2.1 r32_.1 k v.2.2.2.2.2) fun r44_ =>
 .g (!decide ((8 : Int) = 0)) <|
 .t (decide ((wrap .i64 (r44_.1 - v.1)) < (wrap .i64 (v.2.1 - r44_.1))))
 (.c Y2 (rec_ v.1 r44_.1 v.2.2.1 k r44_.2.2) fun r45_ =>
 .l (.inl ((wrap .i64 (r44_.1 + 1)), (v.2.1, (v.2.2.1, ((decide ((wrap .i64 (Int.tdiv (wrap .i64 (v.2.1 - v.1)) (8 : Int))) ≤ (wrap .i64 (r44_.1 - v.1)))), (r44_.2.1, r45_)))))))
 (.c Y2 (rec_ (wrap .i64 (r44_.1 + 1)) v.2.1 v.2.2.1 k r44_.2.2) fun r46_ =>
 .l (.inl (v.1, (r44_.1, (v.2.2.1, ((decide ((wrap .i64 (Int.tdiv (wrap .i64 (v.2.1 - v.1)) (8 : Int))) ≤ (wrap .i64 (v.2.1 - r44_.1)))), (r44_.2.1, r46_))))))))))
 (.t (decide (0 < v.1))
 (.g (inR (wrap .i64 (v.1 - 1)) (length v.2.2.2.2.2)) <|
 .g (decide ((toNat (wrap .i64 (v.1 - 1))) < length v.2.2.2.2.2)) <|
 .g (inR r32_.1 (length v.2.2.2.2.2)) <|
 .g (decide ((toNat r32_.1) < length v.2.2.2.2.2)) <|
 .c (Int) (k ((getD v.2.2.2.2.2 (toNat (wrap .i64 (v.1 - 1))) ([] : Y1)), ((getD v.2.2.2.2.2 (toNat r32_.1) ([] : Y1)), ()))) fun r47_ =>
 .t (!(decide (r47_ < 0)))
 (.f)
 (.c Yp (wam v.1 v.2.1 r32_.1 k v.2.2.2.2.2) fun r48_ =>
 .g (!decide ((8 : Int) = 0)) <|
 .t (decide ((wrap .i64 (r48_.1 - v.1)) < (wrap .i64 (v.2.1 - r48_.1))))
 (.c Y2 (rec_ v.1 r48_.1 v.2.2.1 k r48_.2.2) fun r49_ =>
 .l (.inl ((wrap .i64 (r48_.1 + 1)), (v.2.1, (v.2.2.1, ((decide ((wrap .i64 (Int.tdiv (wrap .i64 (v.2.1 - v.1)) (8 : Int))) ≤ (wrap .i64 (r48_.1 - v.1)))), (r48_.2.1, r49_)))))))
 (.c Y2 (rec_ (wrap .i64 (r48_.1 + 1)) v.2.1 v.2.2.1 k r48_.2.2) fun r50_ =>
 .l (.inl (v.1, (r48_.1, (v.2.2.1, ((decide ((wrap .i64 (Int.tdiv (wrap .i64 (v.2.1 - v.1)) (8 : Int))) ≤ (wrap .i64 (v.2.1 - r48_.1)))), (r48_.2.1, r50_)))))))))
 (.c Yp (wam v.1 v.2.1 r32_.1 k v.2.2.2.2.2) fun r51_ =>
 .g (!decide ((8 : Int) = 0)) <|
 .t (decide ((wrap .i64 (r51_.1 - v.1)) < (wrap .i64 (v.2.1 - r51_.1))))
 (.c Y2 (rec_ v.1 r51_.1 v.2.2.1 k r51_.2.2) fun r52_ =>
 .l (.inl ((wrap .i64 (r51_.1 + 1)), (v.2.1, (v.2.2.1, ((decide ((wrap .i64 (Int.tdiv (wrap .i64 (v.2.1 - v.1)) (8 : Int))) ≤ (wrap .i64 (r51_.1 - v.1)))), (r51_.2.1, r52_)))))))
 (.c Y2 (rec_ (wrap .i64 (r51_.1 + 1)) v.2.1 v.2.2.1 k r51_.2.2) fun r53_ =>
 .l (.inl (v.1, (r51_.1, (v.2.2.1, ((decide ((wrap .i64 (Int.tdiv (wrap .i64 (v.2.1 - v.1)) (8 : Int))) ≤ (wrap .i64 (v.2.1 - r51_.1)))), (r51_.2.1, r53_)))))))))))))
noncomputable def whg (rec_ : (Int) → (Int) → (Int) → (Yd) → Y2 → Option Y2) (k : Yd) (v : Int × Yw) : Option Y2 := iterN (fun v => (whf rec_ k v).ev) 200 v
noncomputable def wtq (rec_ : (Int) → (Int) → (Int) → (Yd) → Y2 → Option Y2) (a2_ : Int) (a3_ : Int) (a4_ : Int) (a5_ : Yd) (a1_ : List Y1) : Tr Y2 :=
 .c Y2 (whg rec_ a5_ (a2_, (a3_, (a4_, (true, (true, a1_)))))) fun r55_ =>
 .l r55_
noncomputable def wob : Nat → (Int) → (Int) → (Int) → (Yd) → Y2 → Option Y2
 | 0 => fun _ _ _ _ _ => none
 | n + 1 => fun a2_ a3_ a4_ a5_ a1_ => (wtq (wob n) a2_ a3_ a4_ a5_ a1_).ev
noncomputable def wtr (a2_ : Yd) (a1_ : List Y1) : Tr Y2 :=
 .c (Int) (wnz (wrap .u64 ((length a1_ : Nat) : Int))) fun r1_ =>
 .c Y2 (wob 1000000 (0 : Int) ((length a1_ : Nat) : Int) r1_ a2_ a1_) fun r2_ =>
 .l r2_
noncomputable def wts (a2_ : Yd) (a1_ : List Y1) : Option Y2 := (wtr a2_ a1_).ev
noncomputable def wamq (a1_ : Int) : Tr (Bool) :=
 .l (a1_ != a1_)
noncomputable def wyo (a1_ : Int) : Option (Bool) := (wamq a1_).ev
noncomputable def wamr (a1_ : Int) (a2_ : Int) : Tr (Int) :=
 .c (Bool) (wyo a1_) fun r1_ =>
 .c (Bool) (wyo a2_) fun r2_ =>
 .t r1_
 (.t r2_
 (.l (0 : Int))
 (.l (-1 : Int)))
 (.t r2_
 (.l (1 : Int))
 (.t (decide (a1_ < a2_))
 (.l (-1 : Int))
 (.t (decide (a2_ < a1_))
 (.l (1 : Int))
 (.l (0 : Int)))))
noncomputable def wyp (a1_ : Int) (a2_ : Int) : Option (Int) := (wamr a1_ a2_).ev
noncomputable def whh (k : Y1 × (Y1 × (Y1 × Int))) (v : Int) : Tr ((Int) ⊕ ((Unit) ⊕ (Int))) :=
 .t (decide (v < k.2.2.2))
 (.g (inR v (length k.2.2.1)) <|
 .t (decide (((length k.2.1 : Nat) : Int) ≤ v))
 (.l (.inr (.inr (1 : Int))))
 (.g (inR v (length k.2.1)) <|
 .c (Int) (wyp (getD k.2.2.1 (toNat v) 0) (getD k.2.1 (toNat v) 0)) fun r6_ =>
 .t (r6_ != (0 : Int))
 (.l (.inr (.inr r6_)))
 (.l (.inl (wrap .i64 (v + 1))))))
 (.l (.inr (.inl ())))
noncomputable def whj (k : Y1 × (Y1 × (Y1 × Int))) (v : Int) : Option ((Unit) ⊕ (Int)) := iterN (fun v => (whh k v).ev) 200 v
noncomputable def wtu (a1_ : Y1) (a2_ : Y1) : Tr (Int) :=
 .c ((Unit) ⊕ (Int)) (whj (a1_, (a2_, (a1_, ((length a1_ : Nat) : Int)))) (0 : Int)) fun r10_ =>
 .s (Unit) (Int) r10_
 (fun _ => .t (decide (((length a1_ : Nat) : Int) < ((length a2_ : Nat) : Int)))
 (.l (-1 : Int))
 (.l (0 : Int)))
 (fun r12_ => .l r12_)
noncomputable def wtv (a1_ : Y1) (a2_ : Y1) : Option (Int) := (wtu a1_ a2_).ev
noncomputable def wku (k : Int × (Y1 × Int)) (v : Int) : Tr ((Int) ⊕ ((Unit) ⊕ (Int))) :=
 .t (decide (v < k.2.2))
 (.g (inR v (length k.2.1)) <|
 .t ((getD k.2.1 (toNat v) 0) != k.1)
 (.l (.inr (.inr (getD k.2.1 (toNat v) 0))))
 (.l (.inl (wrap .i64 (v + 1)))))
 (.l (.inr (.inl ())))
noncomputable def wkv (k : Int × (Y1 × Int)) (v : Int) : Option ((Unit) ⊕ (Int)) := iterN (fun v => (wku k v).ev) 200 v
noncomputable def wams (a1_ : Y1) : Tr (Int) :=
 .c ((Unit) ⊕ (Int)) (wkv ((0 : Int), (a1_, ((length a1_ : Nat) : Int))) (0 : Int)) fun r7_ =>
 .s (Unit) (Int) r7_
 (fun _ => .l (0 : Int))
 (fun r9_ => .l r9_)
noncomputable def wamt (a1_ : Y1) : Option (Int) := (wams a1_).ev
noncomputable def wtw (a1_ : Y1) (a2_ : Y1) : Tr (Int) :=
 .c (Int) (wyp ((length a1_ : Nat) : Int) ((length a2_ : Nat) : Int)) fun r1_ =>
 .c (Int) (wtv a1_ a2_) fun r2_ =>
 .c (Int) (wamt ([r1_, r2_] : Y1)) fun r3_ =>
 .l r3_
noncomputable def wtx (a1_ : Y1) (a2_ : Y1) : Option (Int) := (wtw a1_ a2_).ev
noncomputable def whk (k : Int) (v : Int × Y2) : Tr (Yl ⊕ Y2) :=
 .g (decide (0 ≤ k)) <|
 .t (decide (v.1 < (wrap .u64 ((1 : Int) * 2 ^ (min (toNat k) Zb)))))
 (.c Y1 (wamp v.1) fun r4_ =>
 .g (decide ((length v.2 + length ([r4_] : List Y1)) * 24 ≤ 140737488355328)) <|
 .l (.inl ((wrap .u64 (v.1 + 1)), (v.2 ++ ([r4_] : List Y1)))))
 (.l (.inr v.2))
noncomputable def whl (k : Int) (v : Int × Y2) : Option Y2 := iterN (fun v => (whk k v).ev) 200 v
noncomputable def wty (a1_ : Int) : Tr Y2 :=
 .c Y2 (whl a1_ ((1 : Int), ([] : List Y1))) fun r6_ =>
 .c Y2 (wts (fun h7_ => Option.bind (wtx h7_.1 h7_.2.1) fun y8_ => some y8_) r6_) fun r9_ =>
 .l r9_
noncomputable def wtz (a1_ : Int) : Option Y2 := (wty a1_).ev
noncomputable def whm (k : Int × Int) (v : Int × Y1) : Tr (Yam ⊕ Y1) :=
 .t (decide (v.1 < k.1))
 (.g (decide (0 ≤ v.1)) <|
 .t ((wrap .i64 (BitVec.toNat ((BitVec.ofInt (IntKind.bits .i64) (Int.fdiv k.2 (2 ^ (min (toNat v.1) (IntKind.bits .i64))))) &&& (BitVec.ofInt (IntKind.bits .i64) (1 : Int))))) == (1 : Int))
 (.g (decide ((length v.2 + length ([v.1] : Y1)) * 8 ≤ 140737488355328)) <|
 .l (.inl ((wrap .i64 (v.1 + 1)), (v.2 ++ ([v.1] : Y1)))))
 (.l (.inl ((wrap .i64 (v.1 + 1)), v.2))))
 (.l (.inr v.2))
noncomputable def whn (k : Int × Int) (v : Int × Y1) : Option Y1 := iterN (fun v => (whm k v).ev) 200 v
noncomputable def wua (a1_ : Int) (a2_ : Int) : Tr Y1 :=
 .c Y1 (whn (a1_, a2_) ((0 : Int), ([] : Y1))) fun r6_ =>
 .l r6_
noncomputable def wub (a1_ : Int) (a2_ : Int) : Option Y1 := (wua a1_ a2_).ev
noncomputable def whp (k : Y1 × Y1) (v : Int) : Tr ((Int) ⊕ ((Unit) ⊕ (Bool))) :=
 .t (decide (v < ((length k.1 : Nat) : Int)))
 (.g (inR v (length k.1)) <|
 .g (inR v (length k.2)) <|
 .t ((getD k.1 (toNat v) 0) != (getD k.2 (toNat v) 0))
 (.g (inR v (length k.1)) <|
 .g (inR v (length k.2)) <|
 .l (.inr (.inr (decide ((getD k.1 (toNat v) 0) < (getD k.2 (toNat v) 0))))))
 (.l (.inl (wrap .i64 (v + 1)))))
 (.l (.inr (.inl ())))
noncomputable def whq (k : Y1 × Y1) (v : Int) : Option ((Unit) ⊕ (Bool)) := iterN (fun v => (whp k v).ev) 200 v
noncomputable def wuc (a1_ : Y1) (a2_ : Y1) : Tr (Bool) :=
 .t (((length a1_ : Nat) : Int) != ((length a2_ : Nat) : Int))
 (.l (decide (((length a1_ : Nat) : Int) < ((length a2_ : Nat) : Int))))
 (.c ((Unit) ⊕ (Bool)) (whq (a1_, a2_) (0 : Int)) fun r5_ =>
 .s (Unit) (Bool) r5_
 (fun _ => .l false)
 (fun r7_ => .l r7_))
noncomputable def wud (a1_ : Y1) (a2_ : Y1) : Option (Bool) := (wuc a1_ a2_).ev
noncomputable def whr (k : Int × (Y2 × Yam)) (v : Int) : Tr ((Int) ⊕ (Int)) :=
 .t (decide (0 < v))
 (.g (inR (wrap .i64 (v - 1)) (length k.2.1)) <|
 .c (Bool) (wud k.2.2.2 (getD k.2.1 (toNat (wrap .i64 (v - 1))) ([] : Y1))) fun r26_ =>
 .t r26_
 (.l (.inl (wrap .i64 (v - 1))))
 (.l (.inr v)))
 (.l (.inr v))
noncomputable def whs (k : Int × (Y2 × Yam)) (v : Int) : Option (Int) := iterN (fun v => (whr k v).ev) 200 v
noncomputable def wht (k : Int) (v : Y2 × Int) : Tr ((Y2 × Int) ⊕ Y2) :=
 .g (decide (0 ≤ k)) <|
 .t (decide (v.2 < (wrap .i64 ((1 : Int) * 2 ^ (min (toNat k) (IntKind.bits .i64))))))
 (.c Y1 (wub k v.2) fun r20_ =>
 .c (Int) (whs (k, (v.1, (v.2, r20_))) ((length v.1 : Nat) : Int)) fun r32_ =>
 .g (decide (0 ≤ r32_) && decide (r32_ ≤ ((length v.1 : Nat) : Int))) <|
 .g (decide ((length ([] : List Y1) + length (List.drop 0 (List.take (toNat r32_) v.1))) * 24 ≤ 140737488355328)) <|
 .g (decide ((length (([] : List Y1) ++ (List.drop 0 (List.take (toNat r32_) v.1))) + length ([r20_] : List Y1)) * 24 ≤ 140737488355328)) <|
 .g (decide (0 ≤ r32_) && decide (r32_ ≤ ((length v.1 : Nat) : Int))) <|
 .g (decide ((length ((([] : List Y1) ++ (List.drop 0 (List.take (toNat r32_) v.1))) ++ ([r20_] : List Y1)) + length (List.drop (toNat r32_) (List.take (length v.1) v.1))) * 24 ≤ 140737488355328)) <|
 .l (.inl ((((([] : List Y1) ++ (List.drop 0 (List.take (toNat r32_) v.1))) ++ ([r20_] : List Y1)) ++ (List.drop (toNat r32_) (List.take (length v.1) v.1))), (wrap .i64 (v.2 + 1)))))
 (.l (.inr v.1))
noncomputable def whu (k : Int) (v : Y2 × Int) : Option Y2 := iterN (fun v => (wht k v).ev) 200 v
noncomputable def wue (a1_ : Int) : Tr Y2 :=
 .c Y2 (whu a1_ (([] : List Y1), (1 : Int))) fun r34_ =>
 .l r34_
noncomputable def wuf (a1_ : Int) : Option Y2 := (wue a1_).ev
end Go.Proofs.YtnagpmhaddfgmaaGreat
