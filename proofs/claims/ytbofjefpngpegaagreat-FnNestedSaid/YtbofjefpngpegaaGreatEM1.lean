import Derived.Test.YtbofjefpngpegaaGreatC1
import Derived.Test.YtbofjefpngpegaaGreatB38
namespace Go.Proofs.YtbofjefpngpegaaGreat
noncomputable def wanx (a1_ : Int) : Tr (Int) :=
 .t (decide ((4294967296 : Int) ≤ a1_))
 (.g (decide ((0 : Int) ≤ (32 : Int))) <|
 .t (decide ((65536 : Int) ≤ (Int.fdiv a1_ (2 ^ (min (Int.toNat (32 : Int)) (IntKind.bits .u64))))))
 (.g (decide ((0 : Int) ≤ (16 : Int))) <|
 .t (decide ((256 : Int) ≤ (Int.fdiv (Int.fdiv a1_ (2 ^ (min (Int.toNat (32 : Int)) (IntKind.bits .u64)))) (2 ^ (min (Int.toNat (16 : Int)) (IntKind.bits .u64))))))
 (.g (decide ((0 : Int) ≤ (8 : Int))) <|
 .g (inR (IntKind.wrap .u8 (Int.fdiv (Int.fdiv (Int.fdiv a1_ (2 ^ (min (Int.toNat (32 : Int)) (IntKind.bits .u64)))) (2 ^ (min (Int.toNat (16 : Int)) (IntKind.bits .u64)))) (2 ^ (min (Int.toNat (8 : Int)) (IntKind.bits .u64))))) (List.length ([0, 1, 2, 2, 3, 3, 3, 3, 4, 4, 4, 4, 4, 4, 4, 4, 5, 5, 5, 5, 5, 5, 5, 5, 5, 5, 5, 5, 5, 5, 5, 5, 6, 6, 6, 6, 6, 6, 6, 6, 6, 6, 6, 6, 6, 6, 6, 6, 6, 6, 6, 6, 6, 6, 6, 6, 6, 6, 6, 6, 6, 6, 6, 6, 7, 7, 7, 7, 7, 7, 7, 7, 7, 7, 7, 7, 7, 7, 7, 7, 7, 7, 7, 7, 7, 7, 7, 7, 7, 7, 7, 7, 7, 7, 7, 7, 7, 7, 7, 7, 7, 7, 7, 7, 7, 7, 7, 7, 7, 7, 7, 7, 7, 7, 7, 7, 7, 7, 7, 7, 7, 7, 7, 7, 7, 7, 7, 7, 8, 8, 8, 8, 8, 8, 8, 8, 8, 8, 8, 8, 8, 8, 8, 8, 8, 8, 8, 8, 8, 8, 8, 8, 8, 8, 8, 8, 8, 8, 8, 8, 8, 8, 8, 8, 8, 8, 8, 8, 8, 8, 8, 8, 8, 8, 8, 8, 8, 8, 8, 8, 8, 8, 8, 8, 8, 8, 8, 8, 8, 8, 8, 8, 8, 8, 8, 8, 8, 8, 8, 8, 8, 8, 8, 8, 8, 8, 8, 8, 8, 8, 8, 8, 8, 8, 8, 8, 8, 8, 8, 8, 8, 8, 8, 8, 8, 8, 8, 8, 8, 8, 8, 8, 8, 8, 8, 8, 8, 8, 8, 8, 8, 8, 8, 8, 8, 8, 8, 8, 8, 8, 8, 8, 8, 8, 8, 8] : List UInt8))) <|
 .l (IntKind.wrap .i64 ((IntKind.wrap .i64 ((IntKind.wrap .i64 ((32 : Int) + (16 : Int))) + (8 : Int))) + (IntKind.wrap .i64 ((UInt8.toNat (List.getD ([0, 1, 2, 2, 3, 3, 3, 3, 4, 4, 4, 4, 4, 4, 4, 4, 5, 5, 5, 5, 5, 5, 5, 5, 5, 5, 5, 5, 5, 5, 5, 5, 6, 6, 6, 6, 6, 6, 6, 6, 6, 6, 6, 6, 6, 6, 6, 6, 6, 6, 6, 6, 6, 6, 6, 6, 6, 6, 6, 6, 6, 6, 6, 6, 7, 7, 7, 7, 7, 7, 7, 7, 7, 7, 7, 7, 7, 7, 7, 7, 7, 7, 7, 7, 7, 7, 7, 7, 7, 7, 7, 7, 7, 7, 7, 7, 7, 7, 7, 7, 7, 7, 7, 7, 7, 7, 7, 7, 7, 7, 7, 7, 7, 7, 7, 7, 7, 7, 7, 7, 7, 7, 7, 7, 7, 7, 7, 7, 8, 8, 8, 8, 8, 8, 8, 8, 8, 8, 8, 8, 8, 8, 8, 8, 8, 8, 8, 8, 8, 8, 8, 8, 8, 8, 8, 8, 8, 8, 8, 8, 8, 8, 8, 8, 8, 8, 8, 8, 8, 8, 8, 8, 8, 8, 8, 8, 8, 8, 8, 8, 8, 8, 8, 8, 8, 8, 8, 8, 8, 8, 8, 8, 8, 8, 8, 8, 8, 8, 8, 8, 8, 8, 8, 8, 8, 8, 8, 8, 8, 8, 8, 8, 8, 8, 8, 8, 8, 8, 8, 8, 8, 8, 8, 8, 8, 8, 8, 8, 8, 8, 8, 8, 8, 8, 8, 8, 8, 8, 8, 8, 8, 8, 8, 8, 8, 8, 8, 8, 8, 8, 8, 8, 8, 8, 8, 8] : List UInt8) (Int.toNat (IntKind.wrap .u8 (Int.fdiv (Int.fdiv (Int.fdiv a1_ (2 ^ (min (Int.toNat (32 : Int)) (IntKind.bits .u64)))) (2 ^ (min (Int.toNat (16 : Int)) (IntKind.bits .u64)))) (2 ^ (min (Int.toNat (8 : Int)) (IntKind.bits .u64)))))) 0) : Nat) : Int)))))
 (.g (inR (IntKind.wrap .u8 (Int.fdiv (Int.fdiv a1_ (2 ^ (min (Int.toNat (32 : Int)) (IntKind.bits .u64)))) (2 ^ (min (Int.toNat (16 : Int)) (IntKind.bits .u64))))) (List.length ([0, 1, 2, 2, 3, 3, 3, 3, 4, 4, 4, 4, 4, 4, 4, 4, 5, 5, 5, 5, 5, 5, 5, 5, 5, 5, 5, 5, 5, 5, 5, 5, 6, 6, 6, 6, 6, 6, 6, 6, 6, 6, 6, 6, 6, 6, 6, 6, 6, 6, 6, 6, 6, 6, 6, 6, 6, 6, 6, 6, 6, 6, 6, 6, 7, 7, 7, 7, 7, 7, 7, 7, 7, 7, 7, 7, 7, 7, 7, 7, 7, 7, 7, 7, 7, 7, 7, 7, 7, 7, 7, 7, 7, 7, 7, 7, 7, 7, 7, 7, 7, 7, 7, 7, 7, 7, 7, 7, 7, 7, 7, 7, 7, 7, 7, 7, 7, 7, 7, 7, 7, 7, 7, 7, 7, 7, 7, 7, 8, 8, 8, 8, 8, 8, 8, 8, 8, 8, 8, 8, 8, 8, 8, 8, 8, 8, 8, 8, 8, 8, 8, 8, 8, 8, 8, 8, 8, 8, 8, 8, 8, 8, 8, 8, 8, 8, 8, 8, 8, 8, 8, 8, 8, 8, 8, 8, 8, 8, 8, 8, 8, 8, 8, 8, 8, 8, 8, 8, 8, 8, 8, 8, 8, 8, 8, 8, 8, 8, 8, 8, 8, 8, 8, 8, 8, 8, 8, 8, 8, 8, 8, 8, 8, 8, 8, 8, 8, 8, 8, 8, 8, 8, 8, 8, 8, 8, 8, 8, 8, 8, 8, 8, 8, 8, 8, 8, 8, 8, 8, 8, 8, 8, 8, 8, 8, 8, 8, 8, 8, 8, 8, 8, 8, 8, 8, 8] : List UInt8))) <|
 .l (IntKind.wrap .i64 ((IntKind.wrap .i64 ((32 : Int) + (16 : Int))) + (IntKind.wrap .i64 ((UInt8.toNat (List.getD ([0, 1, 2, 2, 3, 3, 3, 3, 4, 4, 4, 4, 4, 4, 4, 4, 5, 5, 5, 5, 5, 5, 5, 5, 5, 5, 5, 5, 5, 5, 5, 5, 6, 6, 6, 6, 6, 6, 6, 6, 6, 6, 6, 6, 6, 6, 6, 6, 6, 6, 6, 6, 6, 6, 6, 6, 6, 6, 6, 6, 6, 6, 6, 6, 7, 7, 7, 7, 7, 7, 7, 7, 7, 7, 7, 7, 7, 7, 7, 7, 7, 7, 7, 7, 7, 7, 7, 7, 7, 7, 7, 7, 7, 7, 7, 7, 7, 7, 7, 7, 7, 7, 7, 7, 7, 7, 7, 7, 7, 7, 7, 7, 7, 7, 7, 7, 7, 7, 7, 7, 7, 7, 7, 7, 7, 7, 7, 7, 8, 8, 8, 8, 8, 8, 8, 8, 8, 8, 8, 8, 8, 8, 8, 8, 8, 8, 8, 8, 8, 8, 8, 8, 8, 8, 8, 8, 8, 8, 8, 8, 8, 8, 8, 8, 8, 8, 8, 8, 8, 8, 8, 8, 8, 8, 8, 8, 8, 8, 8, 8, 8, 8, 8, 8, 8, 8, 8, 8, 8, 8, 8, 8, 8, 8, 8, 8, 8, 8, 8, 8, 8, 8, 8, 8, 8, 8, 8, 8, 8, 8, 8, 8, 8, 8, 8, 8, 8, 8, 8, 8, 8, 8, 8, 8, 8, 8, 8, 8, 8, 8, 8, 8, 8, 8, 8, 8, 8, 8, 8, 8, 8, 8, 8, 8, 8, 8, 8, 8, 8, 8, 8, 8, 8, 8, 8, 8] : List UInt8) (Int.toNat (IntKind.wrap .u8 (Int.fdiv (Int.fdiv a1_ (2 ^ (min (Int.toNat (32 : Int)) (IntKind.bits .u64)))) (2 ^ (min (Int.toNat (16 : Int)) (IntKind.bits .u64)))))) 0) : Nat) : Int))))))
 (.t (decide ((256 : Int) ≤ (Int.fdiv a1_ (2 ^ (min (Int.toNat (32 : Int)) (IntKind.bits .u64))))))
 (.g (decide ((0 : Int) ≤ (8 : Int))) <|
 .g (inR (IntKind.wrap .u8 (Int.fdiv (Int.fdiv a1_ (2 ^ (min (Int.toNat (32 : Int)) (IntKind.bits .u64)))) (2 ^ (min (Int.toNat (8 : Int)) (IntKind.bits .u64))))) (List.length ([0, 1, 2, 2, 3, 3, 3, 3, 4, 4, 4, 4, 4, 4, 4, 4, 5, 5, 5, 5, 5, 5, 5, 5, 5, 5, 5, 5, 5, 5, 5, 5, 6, 6, 6, 6, 6, 6, 6, 6, 6, 6, 6, 6, 6, 6, 6, 6, 6, 6, 6, 6, 6, 6, 6, 6, 6, 6, 6, 6, 6, 6, 6, 6, 7, 7, 7, 7, 7, 7, 7, 7, 7, 7, 7, 7, 7, 7, 7, 7, 7, 7, 7, 7, 7, 7, 7, 7, 7, 7, 7, 7, 7, 7, 7, 7, 7, 7, 7, 7, 7, 7, 7, 7, 7, 7, 7, 7, 7, 7, 7, 7, 7, 7, 7, 7, 7, 7, 7, 7, 7, 7, 7, 7, 7, 7, 7, 7, 8, 8, 8, 8, 8, 8, 8, 8, 8, 8, 8, 8, 8, 8, 8, 8, 8, 8, 8, 8, 8, 8, 8, 8, 8, 8, 8, 8, 8, 8, 8, 8, 8, 8, 8, 8, 8, 8, 8, 8, 8, 8, 8, 8, 8, 8, 8, 8, 8, 8, 8, 8, 8, 8, 8, 8, 8, 8, 8, 8, 8, 8, 8, 8, 8, 8, 8, 8, 8, 8, 8, 8, 8, 8, 8, 8, 8, 8, 8, 8, 8, 8, 8, 8, 8, 8, 8, 8, 8, 8, 8, 8, 8, 8, 8, 8, 8, 8, 8, 8, 8, 8, 8, 8, 8, 8, 8, 8, 8, 8, 8, 8, 8, 8, 8, 8, 8, 8, 8, 8, 8, 8, 8, 8, 8, 8, 8, 8] : List UInt8))) <|
 .l (IntKind.wrap .i64 ((IntKind.wrap .i64 ((32 : Int) + (8 : Int))) + (IntKind.wrap .i64 ((UInt8.toNat (List.getD ([0, 1, 2, 2, 3, 3, 3, 3, 4, 4, 4, 4, 4, 4, 4, 4, 5, 5, 5, 5, 5, 5, 5, 5, 5, 5, 5, 5, 5, 5, 5, 5, 6, 6, 6, 6, 6, 6, 6, 6, 6, 6, 6, 6, 6, 6, 6, 6, 6, 6, 6, 6, 6, 6, 6, 6, 6, 6, 6, 6, 6, 6, 6, 6, 7, 7, 7, 7, 7, 7, 7, 7, 7, 7, 7, 7, 7, 7, 7, 7, 7, 7, 7, 7, 7, 7, 7, 7, 7, 7, 7, 7, 7, 7, 7, 7, 7, 7, 7, 7, 7, 7, 7, 7, 7, 7, 7, 7, 7, 7, 7, 7, 7, 7, 7, 7, 7, 7, 7, 7, 7, 7, 7, 7, 7, 7, 7, 7, 8, 8, 8, 8, 8, 8, 8, 8, 8, 8, 8, 8, 8, 8, 8, 8, 8, 8, 8, 8, 8, 8, 8, 8, 8, 8, 8, 8, 8, 8, 8, 8, 8, 8, 8, 8, 8, 8, 8, 8, 8, 8, 8, 8, 8, 8, 8, 8, 8, 8, 8, 8, 8, 8, 8, 8, 8, 8, 8, 8, 8, 8, 8, 8, 8, 8, 8, 8, 8, 8, 8, 8, 8, 8, 8, 8, 8, 8, 8, 8, 8, 8, 8, 8, 8, 8, 8, 8, 8, 8, 8, 8, 8, 8, 8, 8, 8, 8, 8, 8, 8, 8, 8, 8, 8, 8, 8, 8, 8, 8, 8, 8, 8, 8, 8, 8, 8, 8, 8, 8, 8, 8, 8, 8, 8, 8, 8, 8] : List UInt8) (Int.toNat (IntKind.wrap .u8 (Int.fdiv (Int.fdiv a1_ (2 ^ (min (Int.toNat (32 : Int)) (IntKind.bits .u64)))) (2 ^ (min (Int.toNat (8 : Int)) (IntKind.bits .u64)))))) 0) : Nat) : Int)))))
 (.g (inR (IntKind.wrap .u8 (Int.fdiv a1_ (2 ^ (min (Int.toNat (32 : Int)) (IntKind.bits .u64))))) (List.length ([0, 1, 2, 2, 3, 3, 3, 3, 4, 4, 4, 4, 4, 4, 4, 4, 5, 5, 5, 5, 5, 5, 5, 5, 5, 5, 5, 5, 5, 5, 5, 5, 6, 6, 6, 6, 6, 6, 6, 6, 6, 6, 6, 6, 6, 6, 6, 6, 6, 6, 6, 6, 6, 6, 6, 6, 6, 6, 6, 6, 6, 6, 6, 6, 7, 7, 7, 7, 7, 7, 7, 7, 7, 7, 7, 7, 7, 7, 7, 7, 7, 7, 7, 7, 7, 7, 7, 7, 7, 7, 7, 7, 7, 7, 7, 7, 7, 7, 7, 7, 7, 7, 7, 7, 7, 7, 7, 7, 7, 7, 7, 7, 7, 7, 7, 7, 7, 7, 7, 7, 7, 7, 7, 7, 7, 7, 7, 7, 8, 8, 8, 8, 8, 8, 8, 8, 8, 8, 8, 8, 8, 8, 8, 8, 8, 8, 8, 8, 8, 8, 8, 8, 8, 8, 8, 8, 8, 8, 8, 8, 8, 8, 8, 8, 8, 8, 8, 8, 8, 8, 8, 8, 8, 8, 8, 8, 8, 8, 8, 8, 8, 8, 8, 8, 8, 8, 8, 8, 8, 8, 8, 8, 8, 8, 8, 8, 8, 8, 8, 8, 8, 8, 8, 8, 8, 8, 8, 8, 8, 8, 8, 8, 8, 8, 8, 8, 8, 8, 8, 8, 8, 8, 8, 8, 8, 8, 8, 8, 8, 8, 8, 8, 8, 8, 8, 8, 8, 8, 8, 8, 8, 8, 8, 8, 8, 8, 8, 8, 8, 8, 8, 8, 8, 8, 8, 8] : List UInt8))) <|
 .l (IntKind.wrap .i64 ((32 : Int) + (IntKind.wrap .i64 ((UInt8.toNat (List.getD ([0, 1, 2, 2, 3, 3, 3, 3, 4, 4, 4, 4, 4, 4, 4, 4, 5, 5, 5, 5, 5, 5, 5, 5, 5, 5, 5, 5, 5, 5, 5, 5, 6, 6, 6, 6, 6, 6, 6, 6, 6, 6, 6, 6, 6, 6, 6, 6, 6, 6, 6, 6, 6, 6, 6, 6, 6, 6, 6, 6, 6, 6, 6, 6, 7, 7, 7, 7, 7, 7, 7, 7, 7, 7, 7, 7, 7, 7, 7, 7, 7, 7, 7, 7, 7, 7, 7, 7, 7, 7, 7, 7, 7, 7, 7, 7, 7, 7, 7, 7, 7, 7, 7, 7, 7, 7, 7, 7, 7, 7, 7, 7, 7, 7, 7, 7, 7, 7, 7, 7, 7, 7, 7, 7, 7, 7, 7, 7, 8, 8, 8, 8, 8, 8, 8, 8, 8, 8, 8, 8, 8, 8, 8, 8, 8, 8, 8, 8, 8, 8, 8, 8, 8, 8, 8, 8, 8, 8, 8, 8, 8, 8, 8, 8, 8, 8, 8, 8, 8, 8, 8, 8, 8, 8, 8, 8, 8, 8, 8, 8, 8, 8, 8, 8, 8, 8, 8, 8, 8, 8, 8, 8, 8, 8, 8, 8, 8, 8, 8, 8, 8, 8, 8, 8, 8, 8, 8, 8, 8, 8, 8, 8, 8, 8, 8, 8, 8, 8, 8, 8, 8, 8, 8, 8, 8, 8, 8, 8, 8, 8, 8, 8, 8, 8, 8, 8, 8, 8, 8, 8, 8, 8, 8, 8, 8, 8, 8, 8, 8, 8, 8, 8, 8, 8, 8, 8] : List UInt8) (Int.toNat (IntKind.wrap .u8 (Int.fdiv a1_ (2 ^ (min (Int.toNat (32 : Int)) (IntKind.bits .u64)))))) 0) : Nat) : Int)))))))
 (.t (decide ((65536 : Int) ≤ a1_))
 (.g (decide ((0 : Int) ≤ (16 : Int))) <|
 .t (decide ((256 : Int) ≤ (Int.fdiv a1_ (2 ^ (min (Int.toNat (16 : Int)) (IntKind.bits .u64))))))
 (.g (decide ((0 : Int) ≤ (8 : Int))) <|
 .g (inR (IntKind.wrap .u8 (Int.fdiv (Int.fdiv a1_ (2 ^ (min (Int.toNat (16 : Int)) (IntKind.bits .u64)))) (2 ^ (min (Int.toNat (8 : Int)) (IntKind.bits .u64))))) (List.length ([0, 1, 2, 2, 3, 3, 3, 3, 4, 4, 4, 4, 4, 4, 4, 4, 5, 5, 5, 5, 5, 5, 5, 5, 5, 5, 5, 5, 5, 5, 5, 5, 6, 6, 6, 6, 6, 6, 6, 6, 6, 6, 6, 6, 6, 6, 6, 6, 6, 6, 6, 6, 6, 6, 6, 6, 6, 6, 6, 6, 6, 6, 6, 6, 7, 7, 7, 7, 7, 7, 7, 7, 7, 7, 7, 7, 7, 7, 7, 7, 7, 7, 7, 7, 7, 7, 7, 7, 7, 7, 7, 7, 7, 7, 7, 7, 7, 7, 7, 7, 7, 7, 7, 7, 7, 7, 7, 7, 7, 7, 7, 7, 7, 7, 7, 7, 7, 7, 7, 7, 7, 7, 7, 7, 7, 7, 7, 7, 8, 8, 8, 8, 8, 8, 8, 8, 8, 8, 8, 8, 8, 8, 8, 8, 8, 8, 8, 8, 8, 8, 8, 8, 8, 8, 8, 8, 8, 8, 8, 8, 8, 8, 8, 8, 8, 8, 8, 8, 8, 8, 8, 8, 8, 8, 8, 8, 8, 8, 8, 8, 8, 8, 8, 8, 8, 8, 8, 8, 8, 8, 8, 8, 8, 8, 8, 8, 8, 8, 8, 8, 8, 8, 8, 8, 8, 8, 8, 8, 8, 8, 8, 8, 8, 8, 8, 8, 8, 8, 8, 8, 8, 8, 8, 8, 8, 8, 8, 8, 8, 8, 8, 8, 8, 8, 8, 8, 8, 8, 8, 8, 8, 8, 8, 8, 8, 8, 8, 8, 8, 8, 8, 8, 8, 8, 8, 8] : List UInt8))) <|
 .l (IntKind.wrap .i64 ((IntKind.wrap .i64 ((IntKind.wrap .i64 ((0 : Int) + (16 : Int))) + (8 : Int))) + (IntKind.wrap .i64 ((UInt8.toNat (List.getD ([0, 1, 2, 2, 3, 3, 3, 3, 4, 4, 4, 4, 4, 4, 4, 4, 5, 5, 5, 5, 5, 5, 5, 5, 5, 5, 5, 5, 5, 5, 5, 5, 6, 6, 6, 6, 6, 6, 6, 6, 6, 6, 6, 6, 6, 6, 6, 6, 6, 6, 6, 6, 6, 6, 6, 6, 6, 6, 6, 6, 6, 6, 6, 6, 7, 7, 7, 7, 7, 7, 7, 7, 7, 7, 7, 7, 7, 7, 7, 7, 7, 7, 7, 7, 7, 7, 7, 7, 7, 7, 7, 7, 7, 7, 7, 7, 7, 7, 7, 7, 7, 7, 7, 7, 7, 7, 7, 7, 7, 7, 7, 7, 7, 7, 7, 7, 7, 7, 7, 7, 7, 7, 7, 7, 7, 7, 7, 7, 8, 8, 8, 8, 8, 8, 8, 8, 8, 8, 8, 8, 8, 8, 8, 8, 8, 8, 8, 8, 8, 8, 8, 8, 8, 8, 8, 8, 8, 8, 8, 8, 8, 8, 8, 8, 8, 8, 8, 8, 8, 8, 8, 8, 8, 8, 8, 8, 8, 8, 8, 8, 8, 8, 8, 8, 8, 8, 8, 8, 8, 8, 8, 8, 8, 8, 8, 8, 8, 8, 8, 8, 8, 8, 8, 8, 8, 8, 8, 8, 8, 8, 8, 8, 8, 8, 8, 8, 8, 8, 8, 8, 8, 8, 8, 8, 8, 8, 8, 8, 8, 8, 8, 8, 8, 8, 8, 8, 8, 8, 8, 8, 8, 8, 8, 8, 8, 8, 8, 8, 8, 8, 8, 8, 8, 8, 8, 8] : List UInt8) (Int.toNat (IntKind.wrap .u8 (Int.fdiv (Int.fdiv a1_ (2 ^ (min (Int.toNat (16 : Int)) (IntKind.bits .u64)))) (2 ^ (min (Int.toNat (8 : Int)) (IntKind.bits .u64)))))) 0) : Nat) : Int)))))
 (.g (inR (IntKind.wrap .u8 (Int.fdiv a1_ (2 ^ (min (Int.toNat (16 : Int)) (IntKind.bits .u64))))) (List.length ([0, 1, 2, 2, 3, 3, 3, 3, 4, 4, 4, 4, 4, 4, 4, 4, 5, 5, 5, 5, 5, 5, 5, 5, 5, 5, 5, 5, 5, 5, 5, 5, 6, 6, 6, 6, 6, 6, 6, 6, 6, 6, 6, 6, 6, 6, 6, 6, 6, 6, 6, 6, 6, 6, 6, 6, 6, 6, 6, 6, 6, 6, 6, 6, 7, 7, 7, 7, 7, 7, 7, 7, 7, 7, 7, 7, 7, 7, 7, 7, 7, 7, 7, 7, 7, 7, 7, 7, 7, 7, 7, 7, 7, 7, 7, 7, 7, 7, 7, 7, 7, 7, 7, 7, 7, 7, 7, 7, 7, 7, 7, 7, 7, 7, 7, 7, 7, 7, 7, 7, 7, 7, 7, 7, 7, 7, 7, 7, 8, 8, 8, 8, 8, 8, 8, 8, 8, 8, 8, 8, 8, 8, 8, 8, 8, 8, 8, 8, 8, 8, 8, 8, 8, 8, 8, 8, 8, 8, 8, 8, 8, 8, 8, 8, 8, 8, 8, 8, 8, 8, 8, 8, 8, 8, 8, 8, 8, 8, 8, 8, 8, 8, 8, 8, 8, 8, 8, 8, 8, 8, 8, 8, 8, 8, 8, 8, 8, 8, 8, 8, 8, 8, 8, 8, 8, 8, 8, 8, 8, 8, 8, 8, 8, 8, 8, 8, 8, 8, 8, 8, 8, 8, 8, 8, 8, 8, 8, 8, 8, 8, 8, 8, 8, 8, 8, 8, 8, 8, 8, 8, 8, 8, 8, 8, 8, 8, 8, 8, 8, 8, 8, 8, 8, 8, 8, 8] : List UInt8))) <|
 .l (IntKind.wrap .i64 ((IntKind.wrap .i64 ((0 : Int) + (16 : Int))) + (IntKind.wrap .i64 ((UInt8.toNat (List.getD ([0, 1, 2, 2, 3, 3, 3, 3, 4, 4, 4, 4, 4, 4, 4, 4, 5, 5, 5, 5, 5, 5, 5, 5, 5, 5, 5, 5, 5, 5, 5, 5, 6, 6, 6, 6, 6, 6, 6, 6, 6, 6, 6, 6, 6, 6, 6, 6, 6, 6, 6, 6, 6, 6, 6, 6, 6, 6, 6, 6, 6, 6, 6, 6, 7, 7, 7, 7, 7, 7, 7, 7, 7, 7, 7, 7, 7, 7, 7, 7, 7, 7, 7, 7, 7, 7, 7, 7, 7, 7, 7, 7, 7, 7, 7, 7, 7, 7, 7, 7, 7, 7, 7, 7, 7, 7, 7, 7, 7, 7, 7, 7, 7, 7, 7, 7, 7, 7, 7, 7, 7, 7, 7, 7, 7, 7, 7, 7, 8, 8, 8, 8, 8, 8, 8, 8, 8, 8, 8, 8, 8, 8, 8, 8, 8, 8, 8, 8, 8, 8, 8, 8, 8, 8, 8, 8, 8, 8, 8, 8, 8, 8, 8, 8, 8, 8, 8, 8, 8, 8, 8, 8, 8, 8, 8, 8, 8, 8, 8, 8, 8, 8, 8, 8, 8, 8, 8, 8, 8, 8, 8, 8, 8, 8, 8, 8, 8, 8, 8, 8, 8, 8, 8, 8, 8, 8, 8, 8, 8, 8, 8, 8, 8, 8, 8, 8, 8, 8, 8, 8, 8, 8, 8, 8, 8, 8, 8, 8, 8, 8, 8, 8, 8, 8, 8, 8, 8, 8, 8, 8, 8, 8, 8, 8, 8, 8, 8, 8, 8, 8, 8, 8, 8, 8, 8, 8] : List UInt8) (Int.toNat (IntKind.wrap .u8 (Int.fdiv a1_ (2 ^ (min (Int.toNat (16 : Int)) (IntKind.bits .u64)))))) 0) : Nat) : Int))))))
 (.t (decide ((256 : Int) ≤ a1_))
 (.g (decide ((0 : Int) ≤ (8 : Int))) <|
 .g (inR (IntKind.wrap .u8 (Int.fdiv a1_ (2 ^ (min (Int.toNat (8 : Int)) (IntKind.bits .u64))))) (List.length ([0, 1, 2, 2, 3, 3, 3, 3, 4, 4, 4, 4, 4, 4, 4, 4, 5, 5, 5, 5, 5, 5, 5, 5, 5, 5, 5, 5, 5, 5, 5, 5, 6, 6, 6, 6, 6, 6, 6, 6, 6, 6, 6, 6, 6, 6, 6, 6, 6, 6, 6, 6, 6, 6, 6, 6, 6, 6, 6, 6, 6, 6, 6, 6, 7, 7, 7, 7, 7, 7, 7, 7, 7, 7, 7, 7, 7, 7, 7, 7, 7, 7, 7, 7, 7, 7, 7, 7, 7, 7, 7, 7, 7, 7, 7, 7, 7, 7, 7, 7, 7, 7, 7, 7, 7, 7, 7, 7, 7, 7, 7, 7, 7, 7, 7, 7, 7, 7, 7, 7, 7, 7, 7, 7, 7, 7, 7, 7, 8, 8, 8, 8, 8, 8, 8, 8, 8, 8, 8, 8, 8, 8, 8, 8, 8, 8, 8, 8, 8, 8, 8, 8, 8, 8, 8, 8, 8, 8, 8, 8, 8, 8, 8, 8, 8, 8, 8, 8, 8, 8, 8, 8, 8, 8, 8, 8, 8, 8, 8, 8, 8, 8, 8, 8, 8, 8, 8, 8, 8, 8, 8, 8, 8, 8, 8, 8, 8, 8, 8, 8, 8, 8, 8, 8, 8, 8, 8, 8, 8, 8, 8, 8, 8, 8, 8, 8, 8, 8, 8, 8, 8, 8, 8, 8, 8, 8, 8, 8, 8, 8, 8, 8, 8, 8, 8, 8, 8, 8, 8, 8, 8, 8, 8, 8, 8, 8, 8, 8, 8, 8, 8, 8, 8, 8, 8, 8] : List UInt8))) <|
 .l (IntKind.wrap .i64 ((IntKind.wrap .i64 ((0 : Int) + (8 : Int))) + (IntKind.wrap .i64 ((UInt8.toNat (List.getD ([0, 1, 2, 2, 3, 3, 3, 3, 4, 4, 4, 4, 4, 4, 4, 4, 5, 5, 5, 5, 5, 5, 5, 5, 5, 5, 5, 5, 5, 5, 5, 5, 6, 6, 6, 6, 6, 6, 6, 6, 6, 6, 6, 6, 6, 6, 6, 6, 6, 6, 6, 6, 6, 6, 6, 6, 6, 6, 6, 6, 6, 6, 6, 6, 7, 7, 7, 7, 7, 7, 7, 7, 7, 7, 7, 7, 7, 7, 7, 7, 7, 7, 7, 7, 7, 7, 7, 7, 7, 7, 7, 7, 7, 7, 7, 7, 7, 7, 7, 7, 7, 7, 7, 7, 7, 7, 7, 7, 7, 7, 7, 7, 7, 7, 7, 7, 7, 7, 7, 7, 7, 7, 7, 7, 7, 7, 7, 7, 8, 8, 8, 8, 8, 8, 8, 8, 8, 8, 8, 8, 8, 8, 8, 8, 8, 8, 8, 8, 8, 8, 8, 8, 8, 8, 8, 8, 8, 8, 8, 8, 8, 8, 8, 8, 8, 8, 8, 8, 8, 8, 8, 8, 8, 8, 8, 8, 8, 8, 8, 8, 8, 8, 8, 8, 8, 8, 8, 8, 8, 8, 8, 8, 8, 8, 8, 8, 8, 8, 8, 8, 8, 8, 8, 8, 8, 8, 8, 8, 8, 8, 8, 8, 8, 8, 8, 8, 8, 8, 8, 8, 8, 8, 8, 8, 8, 8, 8, 8, 8, 8, 8, 8, 8, 8, 8, 8, 8, 8, 8, 8, 8, 8, 8, 8, 8, 8, 8, 8, 8, 8, 8, 8, 8, 8, 8, 8] : List UInt8) (Int.toNat (IntKind.wrap .u8 (Int.fdiv a1_ (2 ^ (min (Int.toNat (8 : Int)) (IntKind.bits .u64)))))) 0) : Nat) : Int)))))
 (.g (inR (IntKind.wrap .u8 a1_) (List.length ([0, 1, 2, 2, 3, 3, 3, 3, 4, 4, 4, 4, 4, 4, 4, 4, 5, 5, 5, 5, 5, 5, 5, 5, 5, 5, 5, 5, 5, 5, 5, 5, 6, 6, 6, 6, 6, 6, 6, 6, 6, 6, 6, 6, 6, 6, 6, 6, 6, 6, 6, 6, 6, 6, 6, 6, 6, 6, 6, 6, 6, 6, 6, 6, 7, 7, 7, 7, 7, 7, 7, 7, 7, 7, 7, 7, 7, 7, 7, 7, 7, 7, 7, 7, 7, 7, 7, 7, 7, 7, 7, 7, 7, 7, 7, 7, 7, 7, 7, 7, 7, 7, 7, 7, 7, 7, 7, 7, 7, 7, 7, 7, 7, 7, 7, 7, 7, 7, 7, 7, 7, 7, 7, 7, 7, 7, 7, 7, 8, 8, 8, 8, 8, 8, 8, 8, 8, 8, 8, 8, 8, 8, 8, 8, 8, 8, 8, 8, 8, 8, 8, 8, 8, 8, 8, 8, 8, 8, 8, 8, 8, 8, 8, 8, 8, 8, 8, 8, 8, 8, 8, 8, 8, 8, 8, 8, 8, 8, 8, 8, 8, 8, 8, 8, 8, 8, 8, 8, 8, 8, 8, 8, 8, 8, 8, 8, 8, 8, 8, 8, 8, 8, 8, 8, 8, 8, 8, 8, 8, 8, 8, 8, 8, 8, 8, 8, 8, 8, 8, 8, 8, 8, 8, 8, 8, 8, 8, 8, 8, 8, 8, 8, 8, 8, 8, 8, 8, 8, 8, 8, 8, 8, 8, 8, 8, 8, 8, 8, 8, 8, 8, 8, 8, 8, 8, 8] : List UInt8))) <|
 .l (IntKind.wrap .i64 ((0 : Int) + (IntKind.wrap .i64 ((UInt8.toNat (List.getD ([0, 1, 2, 2, 3, 3, 3, 3, 4, 4, 4, 4, 4, 4, 4, 4, 5, 5, 5, 5, 5, 5, 5, 5, 5, 5, 5, 5, 5, 5, 5, 5, 6, 6, 6, 6, 6, 6, 6, 6, 6, 6, 6, 6, 6, 6, 6, 6, 6, 6, 6, 6, 6, 6, 6, 6, 6, 6, 6, 6, 6, 6, 6, 6, 7, 7, 7, 7, 7, 7, 7, 7, 7, 7, 7, 7, 7, 7, 7, 7, 7, 7, 7, 7, 7, 7, 7, 7, 7, 7, 7, 7, 7, 7, 7, 7, 7, 7, 7, 7, 7, 7, 7, 7, 7, 7, 7, 7, 7, 7, 7, 7, 7, 7, 7, 7, 7, 7, 7, 7, 7, 7, 7, 7, 7, 7, 7, 7, 8, 8, 8, 8, 8, 8, 8, 8, 8, 8, 8, 8, 8, 8, 8, 8, 8, 8, 8, 8, 8, 8, 8, 8, 8, 8, 8, 8, 8, 8, 8, 8, 8, 8, 8, 8, 8, 8, 8, 8, 8, 8, 8, 8, 8, 8, 8, 8, 8, 8, 8, 8, 8, 8, 8, 8, 8, 8, 8, 8, 8, 8, 8, 8, 8, 8, 8, 8, 8, 8, 8, 8, 8, 8, 8, 8, 8, 8, 8, 8, 8, 8, 8, 8, 8, 8, 8, 8, 8, 8, 8, 8, 8, 8, 8, 8, 8, 8, 8, 8, 8, 8, 8, 8, 8, 8, 8, 8, 8, 8, 8, 8, 8, 8, 8, 8, 8, 8, 8, 8, 8, 8, 8, 8, 8, 8, 8, 8] : List UInt8) (Int.toNat (IntKind.wrap .u8 a1_)) 0) : Nat) : Int)))))))
noncomputable def wany (a1_ : Int) : Option (Int) := (wanx a1_).ev
noncomputable def wanz (a1_ : Int) : Tr (Int) :=
 .c (Int) (wany a1_) fun r1_ =>
 .l r1_
noncomputable def waaw (a1_ : Int) : Option (Int) := (wanz a1_).ev
noncomputable def wbly (a1_ : Int) : Tr (Bool) :=
 .l (a1_ != a1_)
noncomputable def wayt (a1_ : Int) : Option (Bool) := (wbly a1_).ev
noncomputable def waoa (a1_ : Int) : Tr (Int) :=
 .c (Int) (waaw (IntKind.wrap .u64 a1_)) fun r1_ =>
 .g (decide ((0 : Int) ≤ r1_)) <|
 .l (IntKind.wrap .u64 ((1 : Int) * 2 ^ (min (Int.toNat r1_) (IntKind.bits .u64))))
noncomputable def waob (a1_ : Int) : Option (Int) := (waoa a1_).ev
noncomputable def waoc (a1_ : Int) : Tr (Int × Int) :=
 .g (decide ((0 : Int) ≤ (13 : Int))) <|
 .g (decide ((0 : Int) ≤ (7 : Int))) <|
 .g (decide ((0 : Int) ≤ (17 : Int))) <|
 .l ((IntKind.wrap .u64 (BitVec.toNat ((BitVec.ofInt (IntKind.bits .u64) (IntKind.wrap .u64 (BitVec.toNat ((BitVec.ofInt (IntKind.bits .u64) (IntKind.wrap .u64 (BitVec.toNat ((BitVec.ofInt (IntKind.bits .u64) a1_) ^^^ (BitVec.ofInt (IntKind.bits .u64) (IntKind.wrap .u64 (a1_ * 2 ^ (min (Int.toNat (13 : Int)) (IntKind.bits .u64))))))))) ^^^ (BitVec.ofInt (IntKind.bits .u64) (Int.fdiv (IntKind.wrap .u64 (BitVec.toNat ((BitVec.ofInt (IntKind.bits .u64) a1_) ^^^ (BitVec.ofInt (IntKind.bits .u64) (IntKind.wrap .u64 (a1_ * 2 ^ (min (Int.toNat (13 : Int)) (IntKind.bits .u64)))))))) (2 ^ (min (Int.toNat (7 : Int)) (IntKind.bits .u64))))))))) ^^^ (BitVec.ofInt (IntKind.bits .u64) (IntKind.wrap .u64 ((IntKind.wrap .u64 (BitVec.toNat ((BitVec.ofInt (IntKind.bits .u64) (IntKind.wrap .u64 (BitVec.toNat ((BitVec.ofInt (IntKind.bits .u64) a1_) ^^^ (BitVec.ofInt (IntKind.bits .u64) (IntKind.wrap .u64 (a1_ * 2 ^ (min (Int.toNat (13 : Int)) (IntKind.bits .u64))))))))) ^^^ (BitVec.ofInt (IntKind.bits .u64) (Int.fdiv (IntKind.wrap .u64 (BitVec.toNat ((BitVec.ofInt (IntKind.bits .u64) a1_) ^^^ (BitVec.ofInt (IntKind.bits .u64) (IntKind.wrap .u64 (a1_ * 2 ^ (min (Int.toNat (13 : Int)) (IntKind.bits .u64)))))))) (2 ^ (min (Int.toNat (7 : Int)) (IntKind.bits .u64)))))))) * 2 ^ (min (Int.toNat (17 : Int)) (IntKind.bits .u64)))))))), (IntKind.wrap .u64 (BitVec.toNat ((BitVec.ofInt (IntKind.bits .u64) (IntKind.wrap .u64 (BitVec.toNat ((BitVec.ofInt (IntKind.bits .u64) (IntKind.wrap .u64 (BitVec.toNat ((BitVec.ofInt (IntKind.bits .u64) a1_) ^^^ (BitVec.ofInt (IntKind.bits .u64) (IntKind.wrap .u64 (a1_ * 2 ^ (min (Int.toNat (13 : Int)) (IntKind.bits .u64))))))))) ^^^ (BitVec.ofInt (IntKind.bits .u64) (Int.fdiv (IntKind.wrap .u64 (BitVec.toNat ((BitVec.ofInt (IntKind.bits .u64) a1_) ^^^ (BitVec.ofInt (IntKind.bits .u64) (IntKind.wrap .u64 (a1_ * 2 ^ (min (Int.toNat (13 : Int)) (IntKind.bits .u64)))))))) (2 ^ (min (Int.toNat (7 : Int)) (IntKind.bits .u64))))))))) ^^^ (BitVec.ofInt (IntKind.bits .u64) (IntKind.wrap .u64 ((IntKind.wrap .u64 (BitVec.toNat ((BitVec.ofInt (IntKind.bits .u64) (IntKind.wrap .u64 (BitVec.toNat ((BitVec.ofInt (IntKind.bits .u64) a1_) ^^^ (BitVec.ofInt (IntKind.bits .u64) (IntKind.wrap .u64 (a1_ * 2 ^ (min (Int.toNat (13 : Int)) (IntKind.bits .u64))))))))) ^^^ (BitVec.ofInt (IntKind.bits .u64) (Int.fdiv (IntKind.wrap .u64 (BitVec.toNat ((BitVec.ofInt (IntKind.bits .u64) a1_) ^^^ (BitVec.ofInt (IntKind.bits .u64) (IntKind.wrap .u64 (a1_ * 2 ^ (min (Int.toNat (13 : Int)) (IntKind.bits .u64)))))))) (2 ^ (min (Int.toNat (7 : Int)) (IntKind.bits .u64)))))))) * 2 ^ (min (Int.toNat (17 : Int)) (IntKind.bits .u64)))))))))
noncomputable def waod (a1_ : Int) : Option (Int × Int) := (waoc a1_).ev
noncomputable def wblz (a1_ : Int) (a2_ : Int) : Tr (Bool) :=
 .g (decide ((0 : Int) ≤ a2_)) <|
 .l ((IntKind.wrap .u64 (BitVec.toNat ((BitVec.ofInt (IntKind.bits .u64) (Int.fdiv a1_ (2 ^ (min (Int.toNat a2_) (IntKind.bits .u64))))) &&& (BitVec.ofInt (IntKind.bits .u64) (1 : Int))))) == (1 : Int))
noncomputable def wbma (a1_ : Int) (a2_ : Int) : Option (Bool) := (wblz a1_ a2_).ev
noncomputable def wza (k : Int) (v : Int × Y1) : Tr ((Int × Y1) ⊕ Y1) :=
 .g (decide ((0 : Int) ≤ v.1)) <|
 .t (decide ((0 : Int) < (Int.fdiv k (2 ^ (min (Int.toNat v.1) (IntKind.bits .u64))))))
 (.c (Bool) (wbma k v.1) fun r4_ =>
 .t r4_
 (.g (decide ((List.length v.2 + List.length ([v.1] : Y1)) * 8 ≤ 140737488355328)) <|
 .l (.inl ((IntKind.wrap .i64 (v.1 + (1 : Int))), (v.2 ++ ([v.1] : Y1)))))
 (.l (.inl ((IntKind.wrap .i64 (v.1 + (1 : Int))), v.2))))
 (.l (.inr v.2))
noncomputable def wzb (k : Int) (v : Int × Y1) : Option Y1 := wbp (fun v => (wza k v).ev) 200 v
noncomputable def wbmb (a1_ : Int) : Tr Y1 :=
 .c Y1 (wzb a1_ ((0 : Int), ([] : Y1))) fun r6_ =>
 .l r6_
noncomputable def wbmc (a1_ : Int) : Option Y1 := (wbmb a1_).ev
noncomputable def wsg (k : Int × (Int × (((HL [y1, y1] → Option (Int))) × Int))) (v : Int × ((List Nat) × Y2)) : Tr ((Int × ((List Nat) × Y2)) ⊕ ((List Nat) × Y2)) :=
 .t (decide (k.1 < v.1))
 (.g (inR v.1 (List.length v.2.1)) <|
 .g (decide ((Int.toNat v.1) < List.length v.2.1) && decide ((List.getD v.2.1 (Int.toNat v.1) 0) < List.length v.2.2)) <|
 .g (inR (IntKind.wrap .i64 (v.1 - (1 : Int))) (List.length v.2.1)) <|
 .g (decide ((Int.toNat (IntKind.wrap .i64 (v.1 - (1 : Int)))) < List.length v.2.1) && decide ((List.getD v.2.1 (Int.toNat (IntKind.wrap .i64 (v.1 - (1 : Int)))) 0) < List.length v.2.2)) <|
 .c (Int) (k.2.2.1 ((List.getD v.2.2 (List.getD v.2.1 (Int.toNat v.1) 0) ([] : Y1)), ((List.getD v.2.2 (List.getD v.2.1 (Int.toNat (IntKind.wrap .i64 (v.1 - (1 : Int)))) 0) ([] : Y1)), ()))) fun r12_ =>
 .t (decide (r12_ < (0 : Int)))
 (.g (inR (IntKind.wrap .i64 (v.1 - (1 : Int))) (List.length v.2.1)) <|
 .g (decide ((Int.toNat (IntKind.wrap .i64 (v.1 - (1 : Int)))) < List.length v.2.1) && decide ((List.getD v.2.1 (Int.toNat (IntKind.wrap .i64 (v.1 - (1 : Int)))) 0) < List.length v.2.2)) <|
 .g (inR v.1 (List.length v.2.1)) <|
 .g (decide ((Int.toNat v.1) < List.length v.2.1) && decide ((List.getD v.2.1 (Int.toNat v.1) 0) < List.length v.2.2)) <|
 .g (inR v.1 (List.length v.2.1)) <|
 .g (decide ((Int.toNat v.1) < List.length v.2.1)) <|
 .g (inR (IntKind.wrap .i64 (v.1 - (1 : Int))) (List.length (List.set v.2.1 (Int.toNat v.1) (List.getD v.2.1 (Int.toNat (IntKind.wrap .i64 (v.1 - (1 : Int)))) 0)))) <|
 .g (decide ((Int.toNat (IntKind.wrap .i64 (v.1 - (1 : Int)))) < List.length (List.set v.2.1 (Int.toNat v.1) (List.getD v.2.1 (Int.toNat (IntKind.wrap .i64 (v.1 - (1 : Int)))) 0)))) <|
 .l (.inl ((IntKind.wrap .i64 (v.1 - (1 : Int))), ((List.set (List.set v.2.1 (Int.toNat v.1) (List.getD v.2.1 (Int.toNat (IntKind.wrap .i64 (v.1 - (1 : Int)))) 0)) (Int.toNat (IntKind.wrap .i64 (v.1 - (1 : Int)))) (List.getD v.2.1 (Int.toNat v.1) 0)), v.2.2))))
 (.l (.inr v.2)))
 (.l (.inr v.2))
noncomputable def wsh (k : Int × (Int × (((HL [y1, y1] → Option (Int))) × Int))) (v : Int × ((List Nat) × Y2)) : Option ((List Nat) × Y2) := wbp (fun v => (wsg k v).ev) 200 v
noncomputable def wsi (k : Int × (Int × ((HL [y1, y1] → Option (Int))))) (v : Int × ((List Nat) × Y2)) : Tr ((Int × ((List Nat) × Y2)) ⊕ ((List Nat) × Y2)) :=
 .t (decide (v.1 < k.2.1))
 (.c ((List Nat) × Y2) (wsh (k.1, (k.2.1, (k.2.2, v.1))) (v.1, v.2)) fun r18_ =>
 .l (.inl ((IntKind.wrap .i64 (v.1 + (1 : Int))), r18_)))
 (.l (.inr v.2))
noncomputable def wsj (k : Int × (Int × ((HL [y1, y1] → Option (Int))))) (v : Int × ((List Nat) × Y2)) : Option ((List Nat) × Y2) := wbp (fun v => (wsi k v).ev) 200 v
noncomputable def waoe (a2_ : Int) (a3_ : Int) (a4_ : (HL [y1, y1] → Option (Int))) (a1_ : (List Nat) × Y2) : Tr ((List Nat) × Y2) :=
 .c ((List Nat) × Y2) (wsj (a2_, (a3_, a4_)) ((IntKind.wrap .i64 (a2_ + (1 : Int))), a1_)) fun r20_ =>
 .l r20_
noncomputable def waof (a2_ : Int) (a3_ : Int) (a4_ : (HL [y1, y1] → Option (Int))) (a1_ : (List Nat) × Y2) : Option ((List Nat) × Y2) := (waoe a2_ a3_ a4_ a1_).ev
noncomputable def wsk (k : Int × (Int × Int)) (v : Int × (((List Nat) × Y2) × Int)) : Tr ((Int × (((List Nat) × Y2) × Int)) ⊕ ((List Nat) × Y2)) :=
 .g (!decide ((4 : Int) = 0)) <|
 .t (decide (v.1 ≤ (IntKind.wrap .i64 ((IntKind.wrap .i64 (k.1 + (IntKind.wrap .i64 ((IntKind.wrap .i64 (Int.tdiv k.2.1 (4 : Int))) * (2 : Int))))) + (1 : Int)))))
 (.c (Int × Int) (waod v.2.2) fun r8_ =>
 .t (decide (k.2.1 ≤ (IntKind.wrap .i64 (IntKind.wrap .u64 (BitVec.toNat ((BitVec.ofInt (IntKind.bits .u64) r8_.1) &&& (BitVec.ofInt (IntKind.bits .u64) (IntKind.wrap .u64 (k.2.2 - (1 : Int))))))))))
 (.g (inR (IntKind.wrap .i64 (k.1 + (IntKind.wrap .i64 ((IntKind.wrap .i64 (IntKind.wrap .u64 (BitVec.toNat ((BitVec.ofInt (IntKind.bits .u64) r8_.1) &&& (BitVec.ofInt (IntKind.bits .u64) (IntKind.wrap .u64 (k.2.2 - (1 : Int)))))))) - k.2.1)))) (List.length v.2.1.1)) <|
 .g (decide ((Int.toNat (IntKind.wrap .i64 (k.1 + (IntKind.wrap .i64 ((IntKind.wrap .i64 (IntKind.wrap .u64 (BitVec.toNat ((BitVec.ofInt (IntKind.bits .u64) r8_.1) &&& (BitVec.ofInt (IntKind.bits .u64) (IntKind.wrap .u64 (k.2.2 - (1 : Int)))))))) - k.2.1))))) < List.length v.2.1.1) && decide ((List.getD v.2.1.1 (Int.toNat (IntKind.wrap .i64 (k.1 + (IntKind.wrap .i64 ((IntKind.wrap .i64 (IntKind.wrap .u64 (BitVec.toNat ((BitVec.ofInt (IntKind.bits .u64) r8_.1) &&& (BitVec.ofInt (IntKind.bits .u64) (IntKind.wrap .u64 (k.2.2 - (1 : Int)))))))) - k.2.1))))) 0) < List.length v.2.1.2)) <|
 .g (inR v.1 (List.length v.2.1.1)) <|
 .g (decide ((Int.toNat v.1) < List.length v.2.1.1) && decide ((List.getD v.2.1.1 (Int.toNat v.1) 0) < List.length v.2.1.2)) <|
 .g (inR v.1 (List.length v.2.1.1)) <|
 .g (decide ((Int.toNat v.1) < List.length v.2.1.1)) <|
 .g (inR (IntKind.wrap .i64 (k.1 + (IntKind.wrap .i64 ((IntKind.wrap .i64 (IntKind.wrap .u64 (BitVec.toNat ((BitVec.ofInt (IntKind.bits .u64) r8_.1) &&& (BitVec.ofInt (IntKind.bits .u64) (IntKind.wrap .u64 (k.2.2 - (1 : Int)))))))) - k.2.1)))) (List.length (List.set v.2.1.1 (Int.toNat v.1) (List.getD v.2.1.1 (Int.toNat (IntKind.wrap .i64 (k.1 + (IntKind.wrap .i64 ((IntKind.wrap .i64 (IntKind.wrap .u64 (BitVec.toNat ((BitVec.ofInt (IntKind.bits .u64) r8_.1) &&& (BitVec.ofInt (IntKind.bits .u64) (IntKind.wrap .u64 (k.2.2 - (1 : Int)))))))) - k.2.1))))) 0)))) <|
 .g (decide ((Int.toNat (IntKind.wrap .i64 (k.1 + (IntKind.wrap .i64 ((IntKind.wrap .i64 (IntKind.wrap .u64 (BitVec.toNat ((BitVec.ofInt (IntKind.bits .u64) r8_.1) &&& (BitVec.ofInt (IntKind.bits .u64) (IntKind.wrap .u64 (k.2.2 - (1 : Int)))))))) - k.2.1))))) < List.length (List.set v.2.1.1 (Int.toNat v.1) (List.getD v.2.1.1 (Int.toNat (IntKind.wrap .i64 (k.1 + (IntKind.wrap .i64 ((IntKind.wrap .i64 (IntKind.wrap .u64 (BitVec.toNat ((BitVec.ofInt (IntKind.bits .u64) r8_.1) &&& (BitVec.ofInt (IntKind.bits .u64) (IntKind.wrap .u64 (k.2.2 - (1 : Int)))))))) - k.2.1))))) 0)))) <|
 .l (.inl ((IntKind.wrap .i64 (v.1 + (1 : Int))), (((List.set (List.set v.2.1.1 (Int.toNat v.1) (List.getD v.2.1.1 (Int.toNat (IntKind.wrap .i64 (k.1 + (IntKind.wrap .i64 ((IntKind.wrap .i64 (IntKind.wrap .u64 (BitVec.toNat ((BitVec.ofInt (IntKind.bits .u64) r8_.1) &&& (BitVec.ofInt (IntKind.bits .u64) (IntKind.wrap .u64 (k.2.2 - (1 : Int)))))))) - k.2.1))))) 0)) (Int.toNat (IntKind.wrap .i64 (k.1 + (IntKind.wrap .i64 ((IntKind.wrap .i64 (IntKind.wrap .u64 (BitVec.toNat ((BitVec.ofInt (IntKind.bits .u64) r8_.1) &&& (BitVec.ofInt (IntKind.bits .u64) (IntKind.wrap .u64 (k.2.2 - (1 : Int)))))))) - k.2.1))))) (List.getD v.2.1.1 (Int.toNat v.1) 0)), v.2.1.2), r8_.2))))
 (.g (inR (IntKind.wrap .i64 (k.1 + (IntKind.wrap .i64 (IntKind.wrap .u64 (BitVec.toNat ((BitVec.ofInt (IntKind.bits .u64) r8_.1) &&& (BitVec.ofInt (IntKind.bits .u64) (IntKind.wrap .u64 (k.2.2 - (1 : Int)))))))))) (List.length v.2.1.1)) <|
 .g (decide ((Int.toNat (IntKind.wrap .i64 (k.1 + (IntKind.wrap .i64 (IntKind.wrap .u64 (BitVec.toNat ((BitVec.ofInt (IntKind.bits .u64) r8_.1) &&& (BitVec.ofInt (IntKind.bits .u64) (IntKind.wrap .u64 (k.2.2 - (1 : Int))))))))))) < List.length v.2.1.1) && decide ((List.getD v.2.1.1 (Int.toNat (IntKind.wrap .i64 (k.1 + (IntKind.wrap .i64 (IntKind.wrap .u64 (BitVec.toNat ((BitVec.ofInt (IntKind.bits .u64) r8_.1) &&& (BitVec.ofInt (IntKind.bits .u64) (IntKind.wrap .u64 (k.2.2 - (1 : Int))))))))))) 0) < List.length v.2.1.2)) <|
 .g (inR v.1 (List.length v.2.1.1)) <|
 .g (decide ((Int.toNat v.1) < List.length v.2.1.1) && decide ((List.getD v.2.1.1 (Int.toNat v.1) 0) < List.length v.2.1.2)) <|
 .g (inR v.1 (List.length v.2.1.1)) <|
 .g (decide ((Int.toNat v.1) < List.length v.2.1.1)) <|
 .g (inR (IntKind.wrap .i64 (k.1 + (IntKind.wrap .i64 (IntKind.wrap .u64 (BitVec.toNat ((BitVec.ofInt (IntKind.bits .u64) r8_.1) &&& (BitVec.ofInt (IntKind.bits .u64) (IntKind.wrap .u64 (k.2.2 - (1 : Int)))))))))) (List.length (List.set v.2.1.1 (Int.toNat v.1) (List.getD v.2.1.1 (Int.toNat (IntKind.wrap .i64 (k.1 + (IntKind.wrap .i64 (IntKind.wrap .u64 (BitVec.toNat ((BitVec.ofInt (IntKind.bits .u64) r8_.1) &&& (BitVec.ofInt (IntKind.bits .u64) (IntKind.wrap .u64 (k.2.2 - (1 : Int))))))))))) 0)))) <|
 .g (decide ((Int.toNat (IntKind.wrap .i64 (k.1 + (IntKind.wrap .i64 (IntKind.wrap .u64 (BitVec.toNat ((BitVec.ofInt (IntKind.bits .u64) r8_.1) &&& (BitVec.ofInt (IntKind.bits .u64) (IntKind.wrap .u64 (k.2.2 - (1 : Int))))))))))) < List.length (List.set v.2.1.1 (Int.toNat v.1) (List.getD v.2.1.1 (Int.toNat (IntKind.wrap .i64 (k.1 + (IntKind.wrap .i64 (IntKind.wrap .u64 (BitVec.toNat ((BitVec.ofInt (IntKind.bits .u64) r8_.1) &&& (BitVec.ofInt (IntKind.bits .u64) (IntKind.wrap .u64 (k.2.2 - (1 : Int))))))))))) 0)))) <|
 .l (.inl ((IntKind.wrap .i64 (v.1 + (1 : Int))), (((List.set (List.set v.2.1.1 (Int.toNat v.1) (List.getD v.2.1.1 (Int.toNat (IntKind.wrap .i64 (k.1 + (IntKind.wrap .i64 (IntKind.wrap .u64 (BitVec.toNat ((BitVec.ofInt (IntKind.bits .u64) r8_.1) &&& (BitVec.ofInt (IntKind.bits .u64) (IntKind.wrap .u64 (k.2.2 - (1 : Int))))))))))) 0)) (Int.toNat (IntKind.wrap .i64 (k.1 + (IntKind.wrap .i64 (IntKind.wrap .u64 (BitVec.toNat ((BitVec.ofInt (IntKind.bits .u64) r8_.1) &&& (BitVec.ofInt (IntKind.bits .u64) (IntKind.wrap .u64 (k.2.2 - (1 : Int))))))))))) (List.getD v.2.1.1 (Int.toNat v.1) 0)), v.2.1.2), r8_.2)))))
 (.l (.inr v.2.1))
noncomputable def wsl (k : Int × (Int × Int)) (v : Int × (((List Nat) × Y2) × Int)) : Option ((List Nat) × Y2) := wbp (fun v => (wsk k v).ev) 200 v
noncomputable def waog (a2_ : Int) (a3_ : Int) (_a4_ : (HL [y1, y1] → Option (Int))) (a1_ : (List Nat) × Y2) : Tr ((List Nat) × Y2) :=
 .t (decide ((8 : Int) ≤ (IntKind.wrap .i64 (a3_ - a2_))))
 (.c (Int) (waob (IntKind.wrap .i64 (a3_ - a2_))) fun r1_ =>
 .g (!decide ((4 : Int) = 0)) <|
 .c ((List Nat) × Y2) (wsl (a2_, ((IntKind.wrap .i64 (a3_ - a2_)), r1_)) ((IntKind.wrap .i64 ((IntKind.wrap .i64 (a2_ + (IntKind.wrap .i64 ((IntKind.wrap .i64 (Int.tdiv (IntKind.wrap .i64 (a3_ - a2_)) (4 : Int))) * (2 : Int))))) - (1 : Int))), (a1_, (IntKind.wrap .u64 (IntKind.wrap .i64 (a3_ - a2_)))))) fun r10_ =>
 .l r10_)
 (.l a1_)
noncomputable def waoh (a2_ : Int) (a3_ : Int) (a4_ : (HL [y1, y1] → Option (Int))) (a1_ : (List Nat) × Y2) : Option ((List Nat) × Y2) := (waog a2_ a3_ a4_ a1_).ev
noncomputable def waoi (a1_ : List Y1) (a2_ : Int) (a3_ : Int) (a5_ : (HL [y1, y1] → Option (Int))) (a4_ : Int) : Tr (Int × (Int × Int)) :=
 .g (inR a3_ (List.length a1_)) <|
 .g (inR a2_ (List.length a1_)) <|
 .c (Int) (a5_ ((List.getD a1_ (Int.toNat a3_) ([] : Y1)), ((List.getD a1_ (Int.toNat a2_) ([] : Y1)), ()))) fun r1_ =>
 .t (decide (r1_ < (0 : Int)))
 (.l (a3_, (a2_, (IntKind.wrap .i64 (a4_ + (1 : Int))))))
 (.l (a2_, (a3_, a4_)))
noncomputable def wvs (a1_ : List Y1) (a2_ : Int) (a3_ : Int) (a5_ : (HL [y1, y1] → Option (Int))) (a4_ : Int) : Option (Int × (Int × Int)) := (waoi a1_ a2_ a3_ a5_ a4_).ev
noncomputable def waoj (a1_ : List Y1) (a2_ : Int) (a3_ : Int) (a4_ : Int) (a6_ : (HL [y1, y1] → Option (Int))) (a5_ : Int) : Tr (Int × Int) :=
 .c (Int × (Int × Int)) (wvs a1_ a2_ a3_ a6_ a5_) fun r1_ =>
 .c (Int × (Int × Int)) (wvs a1_ r1_.2.1 a4_ a6_ r1_.2.2) fun r2_ =>
 .c (Int × (Int × Int)) (wvs a1_ r1_.1 r2_.1 a6_ r2_.2.2) fun r3_ =>
 .l (r3_.2.1, r3_.2.2)
noncomputable def wvt (a1_ : List Y1) (a2_ : Int) (a3_ : Int) (a4_ : Int) (a6_ : (HL [y1, y1] → Option (Int))) (a5_ : Int) : Option (Int × Int) := (waoj a1_ a2_ a3_ a4_ a6_ a5_).ev
noncomputable def waok (a1_ : List Y1) (a2_ : Int) (a4_ : (HL [y1, y1] → Option (Int))) (a3_ : Int) : Tr (Int × Int) :=
 .c (Int × Int) (wvt a1_ (IntKind.wrap .i64 (a2_ - (1 : Int))) a2_ (IntKind.wrap .i64 (a2_ + (1 : Int))) a4_ a3_) fun r1_ =>
 .l (r1_.1, r1_.2)
noncomputable def wvu (a1_ : List Y1) (a2_ : Int) (a4_ : (HL [y1, y1] → Option (Int))) (a3_ : Int) : Option (Int × Int) := (waok a1_ a2_ a4_ a3_).ev
noncomputable def waol (a1_ : List Y1) (a2_ : Int) (a3_ : Int) (a4_ : (HL [y1, y1] → Option (Int))) : Tr (Int × Int) :=
 .g (!decide ((4 : Int) = 0)) <|
 .g (!decide ((4 : Int) = 0)) <|
 .g (!decide ((4 : Int) = 0)) <|
 .t (decide ((8 : Int) ≤ (IntKind.wrap .i64 (a3_ - a2_))))
 (.t (decide ((50 : Int) ≤ (IntKind.wrap .i64 (a3_ - a2_))))
 (.c (Int × Int) (wvu a1_ (IntKind.wrap .i64 (a2_ + (IntKind.wrap .i64 ((IntKind.wrap .i64 (Int.tdiv (IntKind.wrap .i64 (a3_ - a2_)) (4 : Int))) * (1 : Int))))) a4_ (0 : Int)) fun r1_ =>
 .c (Int × Int) (wvu a1_ (IntKind.wrap .i64 (a2_ + (IntKind.wrap .i64 ((IntKind.wrap .i64 (Int.tdiv (IntKind.wrap .i64 (a3_ - a2_)) (4 : Int))) * (2 : Int))))) a4_ r1_.2) fun r2_ =>
 .c (Int × Int) (wvu a1_ (IntKind.wrap .i64 (a2_ + (IntKind.wrap .i64 ((IntKind.wrap .i64 (Int.tdiv (IntKind.wrap .i64 (a3_ - a2_)) (4 : Int))) * (3 : Int))))) a4_ r2_.2) fun r3_ =>
 .c (Int × Int) (wvt a1_ r1_.1 r2_.1 r3_.1 a4_ r3_.2) fun r4_ =>
 .t (r4_.2 == (0 : Int))
 (.l (r4_.1, (1 : Int)))
 (.t (r4_.2 == (12 : Int))
 (.l (r4_.1, (2 : Int)))
 (.l (r4_.1, (0 : Int)))))
 (.c (Int × Int) (wvt a1_ (IntKind.wrap .i64 (a2_ + (IntKind.wrap .i64 ((IntKind.wrap .i64 (Int.tdiv (IntKind.wrap .i64 (a3_ - a2_)) (4 : Int))) * (1 : Int))))) (IntKind.wrap .i64 (a2_ + (IntKind.wrap .i64 ((IntKind.wrap .i64 (Int.tdiv (IntKind.wrap .i64 (a3_ - a2_)) (4 : Int))) * (2 : Int))))) (IntKind.wrap .i64 (a2_ + (IntKind.wrap .i64 ((IntKind.wrap .i64 (Int.tdiv (IntKind.wrap .i64 (a3_ - a2_)) (4 : Int))) * (3 : Int))))) a4_ (0 : Int)) fun r5_ =>
 .t (r5_.2 == (0 : Int))
 (.l (r5_.1, (1 : Int)))
 (.t (r5_.2 == (12 : Int))
 (.l (r5_.1, (2 : Int)))
 (.l (r5_.1, (0 : Int))))))
 (.t ((0 : Int) == (0 : Int))
 (.l ((IntKind.wrap .i64 (a2_ + (IntKind.wrap .i64 ((IntKind.wrap .i64 (Int.tdiv (IntKind.wrap .i64 (a3_ - a2_)) (4 : Int))) * (2 : Int))))), (1 : Int)))
 (.t ((0 : Int) == (12 : Int))
 (.l ((IntKind.wrap .i64 (a2_ + (IntKind.wrap .i64 ((IntKind.wrap .i64 (Int.tdiv (IntKind.wrap .i64 (a3_ - a2_)) (4 : Int))) * (2 : Int))))), (2 : Int)))
 (.l ((IntKind.wrap .i64 (a2_ + (IntKind.wrap .i64 ((IntKind.wrap .i64 (Int.tdiv (IntKind.wrap .i64 (a3_ - a2_)) (4 : Int))) * (2 : Int))))), (0 : Int)))))
noncomputable def waax (a1_ : List Y1) (a2_ : Int) (a3_ : Int) (a4_ : (HL [y1, y1] → Option (Int))) : Option (Int × Int) := (waol a1_ a2_ a3_ a4_).ev
noncomputable def wsm (k : Int × (((HL [y1, y1] → Option (Int))) × (Int × ((List Nat) × Y2)))) (v : Int) : Tr ((Int) ⊕ (Int)) :=
 .t (decide (v ≤ k.2.2.1))
 (.g (inR v (List.length k.2.2.2.1)) <|
 .g (decide ((Int.toNat v) < List.length k.2.2.2.1) && decide ((List.getD k.2.2.2.1 (Int.toNat v) 0) < List.length k.2.2.2.2)) <|
 .g (inR k.1 (List.length k.2.2.2.1)) <|
 .g (decide ((Int.toNat k.1) < List.length k.2.2.2.1) && decide ((List.getD k.2.2.2.1 (Int.toNat k.1) 0) < List.length k.2.2.2.2)) <|
 .c (Int) (k.2.1 ((List.getD k.2.2.2.2 (List.getD k.2.2.2.1 (Int.toNat v) 0) ([] : Y1)), ((List.getD k.2.2.2.2 (List.getD k.2.2.2.1 (Int.toNat k.1) 0) ([] : Y1)), ()))) fun r6_ =>
 .t (decide (r6_ < (0 : Int)))
 (.l (.inl (IntKind.wrap .i64 (v + (1 : Int)))))
 (.l (.inr v)))
 (.l (.inr v))
noncomputable def wsn (k : Int × (((HL [y1, y1] → Option (Int))) × (Int × ((List Nat) × Y2)))) (v : Int) : Option (Int) := wbp (fun v => (wsm k v).ev) 200 v
noncomputable def wso (k : Int × (((HL [y1, y1] → Option (Int))) × (Int × ((List Nat) × Y2)))) (v : Int) : Tr ((Int) ⊕ (Int)) :=
 .t (decide (k.2.2.1 ≤ v))
 (.g (inR v (List.length k.2.2.2.1)) <|
 .g (decide ((Int.toNat v) < List.length k.2.2.2.1) && decide ((List.getD k.2.2.2.1 (Int.toNat v) 0) < List.length k.2.2.2.2)) <|
 .g (inR k.1 (List.length k.2.2.2.1)) <|
 .g (decide ((Int.toNat k.1) < List.length k.2.2.2.1) && decide ((List.getD k.2.2.2.1 (Int.toNat k.1) 0) < List.length k.2.2.2.2)) <|
 .c (Int) (k.2.1 ((List.getD k.2.2.2.2 (List.getD k.2.2.2.1 (Int.toNat v) 0) ([] : Y1)), ((List.getD k.2.2.2.2 (List.getD k.2.2.2.1 (Int.toNat k.1) 0) ([] : Y1)), ()))) fun r18_ =>
 .t (!(decide (r18_ < (0 : Int))))
 (.l (.inl (IntKind.wrap .i64 (v - (1 : Int)))))
 (.l (.inr v)))
 (.l (.inr v))
noncomputable def wsp (k : Int × (((HL [y1, y1] → Option (Int))) × (Int × ((List Nat) × Y2)))) (v : Int) : Option (Int) := wbp (fun v => (wso k v).ev) 200 v
noncomputable def wsq (k : Int × (((HL [y1, y1] → Option (Int))) × (Int × ((List Nat) × Y2)))) (v : Int) : Tr ((Int) ⊕ (Int)) :=
 .t (decide (v ≤ k.2.2.1))
 (.g (inR v (List.length k.2.2.2.1)) <|
 .g (decide ((Int.toNat v) < List.length k.2.2.2.1) && decide ((List.getD k.2.2.2.1 (Int.toNat v) 0) < List.length k.2.2.2.2)) <|
 .g (inR k.1 (List.length k.2.2.2.1)) <|
 .g (decide ((Int.toNat k.1) < List.length k.2.2.2.1) && decide ((List.getD k.2.2.2.1 (Int.toNat k.1) 0) < List.length k.2.2.2.2)) <|
 .c (Int) (k.2.1 ((List.getD k.2.2.2.2 (List.getD k.2.2.2.1 (Int.toNat v) 0) ([] : Y1)), ((List.getD k.2.2.2.2 (List.getD k.2.2.2.1 (Int.toNat k.1) 0) ([] : Y1)), ()))) fun r35_ =>
 .t (decide (r35_ < (0 : Int)))
 (.l (.inl (IntKind.wrap .i64 (v + (1 : Int)))))
 (.l (.inr v)))
 (.l (.inr v))
noncomputable def wsr (k : Int × (((HL [y1, y1] → Option (Int))) × (Int × ((List Nat) × Y2)))) (v : Int) : Option (Int) := wbp (fun v => (wsq k v).ev) 200 v
noncomputable def wss (k : Int × (((HL [y1, y1] → Option (Int))) × (Int × ((List Nat) × Y2)))) (v : Int) : Tr ((Int) ⊕ (Int)) :=
 .t (decide (k.2.2.1 ≤ v))
 (.g (inR v (List.length k.2.2.2.1)) <|
 .g (decide ((Int.toNat v) < List.length k.2.2.2.1) && decide ((List.getD k.2.2.2.1 (Int.toNat v) 0) < List.length k.2.2.2.2)) <|
 .g (inR k.1 (List.length k.2.2.2.1)) <|
 .g (decide ((Int.toNat k.1) < List.length k.2.2.2.1) && decide ((List.getD k.2.2.2.1 (Int.toNat k.1) 0) < List.length k.2.2.2.2)) <|
 .c (Int) (k.2.1 ((List.getD k.2.2.2.2 (List.getD k.2.2.2.1 (Int.toNat v) 0) ([] : Y1)), ((List.getD k.2.2.2.2 (List.getD k.2.2.2.1 (Int.toNat k.1) 0) ([] : Y1)), ()))) fun r47_ =>
 .t (!(decide (r47_ < (0 : Int))))
 (.l (.inl (IntKind.wrap .i64 (v - (1 : Int)))))
 (.l (.inr v)))
 (.l (.inr v))
noncomputable def wsu (k : Int × (((HL [y1, y1] → Option (Int))) × (Int × ((List Nat) × Y2)))) (v : Int) : Option (Int) := wbp (fun v => (wss k v).ev) 200 v
noncomputable def wsv (k : Int × ((HL [y1, y1] → Option (Int)))) (v : Int × (Int × ((List Nat) × Y2))) : Tr ((Int × (Int × ((List Nat) × Y2))) ⊕ (Int × ((List Nat) × Y2))) :=
 .c (Int) (wsr (k.1, (k.2, (v.2.1, v.2.2))) v.1) fun r41_ =>
 .c (Int) (wsu (k.1, (k.2, (r41_, v.2.2))) v.2.1) fun r53_ =>
 .t (decide (r53_ < r41_))
 (.l (.inr (r53_, v.2.2)))
 (.g (inR r53_ (List.length v.2.2.1)) <|
 .g (decide ((Int.toNat r53_) < List.length v.2.2.1) && decide ((List.getD v.2.2.1 (Int.toNat r53_) 0) < List.length v.2.2.2)) <|
 .g (inR r41_ (List.length v.2.2.1)) <|
 .g (decide ((Int.toNat r41_) < List.length v.2.2.1) && decide ((List.getD v.2.2.1 (Int.toNat r41_) 0) < List.length v.2.2.2)) <|
 .g (inR r41_ (List.length v.2.2.1)) <|
 .g (decide ((Int.toNat r41_) < List.length v.2.2.1)) <|
 .g (inR r53_ (List.length (List.set v.2.2.1 (Int.toNat r41_) (List.getD v.2.2.1 (Int.toNat r53_) 0)))) <|
 .g (decide ((Int.toNat r53_) < List.length (List.set v.2.2.1 (Int.toNat r41_) (List.getD v.2.2.1 (Int.toNat r53_) 0)))) <|
 .l (.inl ((IntKind.wrap .i64 (r41_ + (1 : Int))), ((IntKind.wrap .i64 (r53_ - (1 : Int))), ((List.set (List.set v.2.2.1 (Int.toNat r41_) (List.getD v.2.2.1 (Int.toNat r53_) 0)) (Int.toNat r53_) (List.getD v.2.2.1 (Int.toNat r41_) 0)), v.2.2.2)))))
noncomputable def wsw (k : Int × ((HL [y1, y1] → Option (Int)))) (v : Int × (Int × ((List Nat) × Y2))) : Option (Int × ((List Nat) × Y2)) := wbp (fun v => (wsv k v).ev) 200 v
noncomputable def waom (a2_ : Int) (a3_ : Int) (a4_ : Int) (a5_ : (HL [y1, y1] → Option (Int))) (a1_ : (List Nat) × Y2) : Tr (Int × (Bool × ((List Nat) × Y2))) :=
 .g (inR a4_ (List.length a1_.1)) <|
 .g (decide ((Int.toNat a4_) < List.length a1_.1) && decide ((List.getD a1_.1 (Int.toNat a4_) 0) < List.length a1_.2)) <|
 .g (inR a2_ (List.length a1_.1)) <|
 .g (decide ((Int.toNat a2_) < List.length a1_.1) && decide ((List.getD a1_.1 (Int.toNat a2_) 0) < List.length a1_.2)) <|
 .g (inR a2_ (List.length a1_.1)) <|
 .g (decide ((Int.toNat a2_) < List.length a1_.1)) <|
 .g (inR a4_ (List.length (List.set a1_.1 (Int.toNat a2_) (List.getD a1_.1 (Int.toNat a4_) 0)))) <|
 .g (decide ((Int.toNat a4_) < List.length (List.set a1_.1 (Int.toNat a2_) (List.getD a1_.1 (Int.toNat a4_) 0)))) <|
 .c (Int) (wsn (a2_, (a5_, ((IntKind.wrap .i64 (a3_ - (1 : Int))), ((List.set (List.set a1_.1 (Int.toNat a2_) (List.getD a1_.1 (Int.toNat a4_) 0)) (Int.toNat a4_) (List.getD a1_.1 (Int.toNat a2_) 0)), a1_.2)))) (IntKind.wrap .i64 (a2_ + (1 : Int)))) fun r12_ =>
 .c (Int) (wsp (a2_, (a5_, (r12_, ((List.set (List.set a1_.1 (Int.toNat a2_) (List.getD a1_.1 (Int.toNat a4_) 0)) (Int.toNat a4_) (List.getD a1_.1 (Int.toNat a2_) 0)), a1_.2)))) (IntKind.wrap .i64 (a3_ - (1 : Int)))) fun r24_ =>
 .t (decide (r24_ < r12_))
 (.g (inR a2_ (List.length (List.set (List.set a1_.1 (Int.toNat a2_) (List.getD a1_.1 (Int.toNat a4_) 0)) (Int.toNat a4_) (List.getD a1_.1 (Int.toNat a2_) 0)))) <|
 .g (decide ((Int.toNat a2_) < List.length (List.set (List.set a1_.1 (Int.toNat a2_) (List.getD a1_.1 (Int.toNat a4_) 0)) (Int.toNat a4_) (List.getD a1_.1 (Int.toNat a2_) 0))) && decide ((List.getD (List.set (List.set a1_.1 (Int.toNat a2_) (List.getD a1_.1 (Int.toNat a4_) 0)) (Int.toNat a4_) (List.getD a1_.1 (Int.toNat a2_) 0)) (Int.toNat a2_) 0) < List.length a1_.2)) <|
 .g (inR r24_ (List.length (List.set (List.set a1_.1 (Int.toNat a2_) (List.getD a1_.1 (Int.toNat a4_) 0)) (Int.toNat a4_) (List.getD a1_.1 (Int.toNat a2_) 0)))) <|
 .g (decide ((Int.toNat r24_) < List.length (List.set (List.set a1_.1 (Int.toNat a2_) (List.getD a1_.1 (Int.toNat a4_) 0)) (Int.toNat a4_) (List.getD a1_.1 (Int.toNat a2_) 0))) && decide ((List.getD (List.set (List.set a1_.1 (Int.toNat a2_) (List.getD a1_.1 (Int.toNat a4_) 0)) (Int.toNat a4_) (List.getD a1_.1 (Int.toNat a2_) 0)) (Int.toNat r24_) 0) < List.length a1_.2)) <|
 .g (inR r24_ (List.length (List.set (List.set a1_.1 (Int.toNat a2_) (List.getD a1_.1 (Int.toNat a4_) 0)) (Int.toNat a4_) (List.getD a1_.1 (Int.toNat a2_) 0)))) <|
 .g (decide ((Int.toNat r24_) < List.length (List.set (List.set a1_.1 (Int.toNat a2_) (List.getD a1_.1 (Int.toNat a4_) 0)) (Int.toNat a4_) (List.getD a1_.1 (Int.toNat a2_) 0)))) <|
 .g (inR a2_ (List.length (List.set (List.set (List.set a1_.1 (Int.toNat a2_) (List.getD a1_.1 (Int.toNat a4_) 0)) (Int.toNat a4_) (List.getD a1_.1 (Int.toNat a2_) 0)) (Int.toNat r24_) (List.getD (List.set (List.set a1_.1 (Int.toNat a2_) (List.getD a1_.1 (Int.toNat a4_) 0)) (Int.toNat a4_) (List.getD a1_.1 (Int.toNat a2_) 0)) (Int.toNat a2_) 0)))) <|
 .g (decide ((Int.toNat a2_) < List.length (List.set (List.set (List.set a1_.1 (Int.toNat a2_) (List.getD a1_.1 (Int.toNat a4_) 0)) (Int.toNat a4_) (List.getD a1_.1 (Int.toNat a2_) 0)) (Int.toNat r24_) (List.getD (List.set (List.set a1_.1 (Int.toNat a2_) (List.getD a1_.1 (Int.toNat a4_) 0)) (Int.toNat a4_) (List.getD a1_.1 (Int.toNat a2_) 0)) (Int.toNat a2_) 0)))) <|
 .l (r24_, (true, ((List.set (List.set (List.set (List.set a1_.1 (Int.toNat a2_) (List.getD a1_.1 (Int.toNat a4_) 0)) (Int.toNat a4_) (List.getD a1_.1 (Int.toNat a2_) 0)) (Int.toNat r24_) (List.getD (List.set (List.set a1_.1 (Int.toNat a2_) (List.getD a1_.1 (Int.toNat a4_) 0)) (Int.toNat a4_) (List.getD a1_.1 (Int.toNat a2_) 0)) (Int.toNat a2_) 0)) (Int.toNat a2_) (List.getD (List.set (List.set a1_.1 (Int.toNat a2_) (List.getD a1_.1 (Int.toNat a4_) 0)) (Int.toNat a4_) (List.getD a1_.1 (Int.toNat a2_) 0)) (Int.toNat r24_) 0)), a1_.2))))
 (.g (inR r24_ (List.length (List.set (List.set a1_.1 (Int.toNat a2_) (List.getD a1_.1 (Int.toNat a4_) 0)) (Int.toNat a4_) (List.getD a1_.1 (Int.toNat a2_) 0)))) <|
 .g (decide ((Int.toNat r24_) < List.length (List.set (List.set a1_.1 (Int.toNat a2_) (List.getD a1_.1 (Int.toNat a4_) 0)) (Int.toNat a4_) (List.getD a1_.1 (Int.toNat a2_) 0))) && decide ((List.getD (List.set (List.set a1_.1 (Int.toNat a2_) (List.getD a1_.1 (Int.toNat a4_) 0)) (Int.toNat a4_) (List.getD a1_.1 (Int.toNat a2_) 0)) (Int.toNat r24_) 0) < List.length a1_.2)) <|
 .g (inR r12_ (List.length (List.set (List.set a1_.1 (Int.toNat a2_) (List.getD a1_.1 (Int.toNat a4_) 0)) (Int.toNat a4_) (List.getD a1_.1 (Int.toNat a2_) 0)))) <|
 .g (decide ((Int.toNat r12_) < List.length (List.set (List.set a1_.1 (Int.toNat a2_) (List.getD a1_.1 (Int.toNat a4_) 0)) (Int.toNat a4_) (List.getD a1_.1 (Int.toNat a2_) 0))) && decide ((List.getD (List.set (List.set a1_.1 (Int.toNat a2_) (List.getD a1_.1 (Int.toNat a4_) 0)) (Int.toNat a4_) (List.getD a1_.1 (Int.toNat a2_) 0)) (Int.toNat r12_) 0) < List.length a1_.2)) <|
 .g (inR r12_ (List.length (List.set (List.set a1_.1 (Int.toNat a2_) (List.getD a1_.1 (Int.toNat a4_) 0)) (Int.toNat a4_) (List.getD a1_.1 (Int.toNat a2_) 0)))) <|
 .g (decide ((Int.toNat r12_) < List.length (List.set (List.set a1_.1 (Int.toNat a2_) (List.getD a1_.1 (Int.toNat a4_) 0)) (Int.toNat a4_) (List.getD a1_.1 (Int.toNat a2_) 0)))) <|
 .g (inR r24_ (List.length (List.set (List.set (List.set a1_.1 (Int.toNat a2_) (List.getD a1_.1 (Int.toNat a4_) 0)) (Int.toNat a4_) (List.getD a1_.1 (Int.toNat a2_) 0)) (Int.toNat r12_) (List.getD (List.set (List.set a1_.1 (Int.toNat a2_) (List.getD a1_.1 (Int.toNat a4_) 0)) (Int.toNat a4_) (List.getD a1_.1 (Int.toNat a2_) 0)) (Int.toNat r24_) 0)))) <|
 .g (decide ((Int.toNat r24_) < List.length (List.set (List.set (List.set a1_.1 (Int.toNat a2_) (List.getD a1_.1 (Int.toNat a4_) 0)) (Int.toNat a4_) (List.getD a1_.1 (Int.toNat a2_) 0)) (Int.toNat r12_) (List.getD (List.set (List.set a1_.1 (Int.toNat a2_) (List.getD a1_.1 (Int.toNat a4_) 0)) (Int.toNat a4_) (List.getD a1_.1 (Int.toNat a2_) 0)) (Int.toNat r24_) 0)))) <|
 .c (Int × ((List Nat) × Y2)) (wsw (a2_, a5_) ((IntKind.wrap .i64 (r12_ + (1 : Int))), ((IntKind.wrap .i64 (r24_ - (1 : Int))), ((List.set (List.set (List.set (List.set a1_.1 (Int.toNat a2_) (List.getD a1_.1 (Int.toNat a4_) 0)) (Int.toNat a4_) (List.getD a1_.1 (Int.toNat a2_) 0)) (Int.toNat r12_) (List.getD (List.set (List.set a1_.1 (Int.toNat a2_) (List.getD a1_.1 (Int.toNat a4_) 0)) (Int.toNat a4_) (List.getD a1_.1 (Int.toNat a2_) 0)) (Int.toNat r24_) 0)) (Int.toNat r24_) (List.getD (List.set (List.set a1_.1 (Int.toNat a2_) (List.getD a1_.1 (Int.toNat a4_) 0)) (Int.toNat a4_) (List.getD a1_.1 (Int.toNat a2_) 0)) (Int.toNat r12_) 0)), a1_.2)))) fun r57_ =>
 .g (inR a2_ (List.length r57_.2.1)) <|
 .g (decide ((Int.toNat a2_) < List.length r57_.2.1) && decide ((List.getD r57_.2.1 (Int.toNat a2_) 0) < List.length r57_.2.2)) <|
 .g (inR r57_.1 (List.length r57_.2.1)) <|
 .g (decide ((Int.toNat r57_.1) < List.length r57_.2.1) && decide ((List.getD r57_.2.1 (Int.toNat r57_.1) 0) < List.length r57_.2.2)) <|
 .g (inR r57_.1 (List.length r57_.2.1)) <|
 .g (decide ((Int.toNat r57_.1) < List.length r57_.2.1)) <|
 .g (inR a2_ (List.length (List.set r57_.2.1 (Int.toNat r57_.1) (List.getD r57_.2.1 (Int.toNat a2_) 0)))) <|
 .g (decide ((Int.toNat a2_) < List.length (List.set r57_.2.1 (Int.toNat r57_.1) (List.getD r57_.2.1 (Int.toNat a2_) 0)))) <|
 .l (r57_.1, (false, ((List.set (List.set r57_.2.1 (Int.toNat r57_.1) (List.getD r57_.2.1 (Int.toNat a2_) 0)) (Int.toNat a2_) (List.getD r57_.2.1 (Int.toNat r57_.1) 0)), r57_.2.2))))
noncomputable def wdq (a2_ : Int) (a3_ : Int) (a4_ : Int) (a5_ : (HL [y1, y1] → Option (Int))) (a1_ : (List Nat) × Y2) : Option (Int × (Bool × ((List Nat) × Y2))) := (waom a2_ a3_ a4_ a5_ a1_).ev
noncomputable def wsx (rec_ : (Int) → (Int) → (Int) → ((HL [y1, y1] → Option (Int))) → ((List Nat) × Y2) → Option ((List Nat) × Y2)) (k : (HL [y1, y1] → Option (Int))) (v : Int × (Int × (Int × (Bool × (Bool × ((List Nat) × Y2)))))) : Tr ((Int × (Int × (Int × (Bool × (Bool × ((List Nat) × Y2)))))) ⊕ ((List Nat) × Y2)) :=
 .t (decide ((IntKind.wrap .i64 (v.2.1 - v.1)) ≤ (12 : Int)))
 (.c ((List Nat) × Y2) (waof v.1 v.2.1 k v.2.2.2.2.2) fun r8_ =>
 .l (.inr r8_))
 (.t (v.2.2.1 == (0 : Int))
 (.f)
 (.t (!v.2.2.2.1)
 (.c ((List Nat) × Y2) (waoh v.1 v.2.1 k v.2.2.2.2.2) fun r9_ =>
 .c (Int × Int) (waax (waz r9_.1 r9_.2) v.1 v.2.1 k) fun r10_ =>
 .t (r10_.2 == (2 : Int))
 (.f)
 (.t v.2.2.2.1
 (.t v.2.2.2.2.1
 (.t (r10_.2 == (1 : Int))
 (.f)
 (.t (decide ((0 : Int) < v.1))
 (.g (inR (IntKind.wrap .i64 (v.1 - (1 : Int))) (List.length r9_.1)) <|
 .g (decide ((Int.toNat (IntKind.wrap .i64 (v.1 - (1 : Int)))) < List.length r9_.1) && decide ((List.getD r9_.1 (Int.toNat (IntKind.wrap .i64 (v.1 - (1 : Int)))) 0) < List.length r9_.2)) <|
 .g (inR r10_.1 (List.length r9_.1)) <|
 .g (decide ((Int.toNat r10_.1) < List.length r9_.1) && decide ((List.getD r9_.1 (Int.toNat r10_.1) 0) < List.length r9_.2)) <|
 .c (Int) (k ((List.getD r9_.2 (List.getD r9_.1 (Int.toNat (IntKind.wrap .i64 (v.1 - (1 : Int)))) 0) ([] : Y1)), ((List.getD r9_.2 (List.getD r9_.1 (Int.toNat r10_.1) 0) ([] : Y1)), ()))) fun r11_ =>
 .t (!(decide (r11_ < (0 : Int))))
 (.f)
 (.c (Int × (Bool × ((List Nat) × Y2))) (wdq v.1 v.2.1 r10_.1 k r9_) fun r12_ =>
 .g (!decide ((8 : Int) = 0)) <|
 .t (decide ((IntKind.wrap .i64 (r12_.1 - v.1)) < (IntKind.wrap .i64 (v.2.1 - r12_.1))))
 (.c ((List Nat) × Y2) (rec_ v.1 r12_.1 (IntKind.wrap .i64 (v.2.2.1 - (1 : Int))) k r12_.2.2) fun r13_ =>
 .l (.inl ((IntKind.wrap .i64 (r12_.1 + (1 : Int))), (v.2.1, ((IntKind.wrap .i64 (v.2.2.1 - (1 : Int))), ((decide ((IntKind.wrap .i64 (Int.tdiv (IntKind.wrap .i64 (v.2.1 - v.1)) (8 : Int))) ≤ (IntKind.wrap .i64 (r12_.1 - v.1)))), (r12_.2.1, r13_)))))))
 (.c ((List Nat) × Y2) (rec_ (IntKind.wrap .i64 (r12_.1 + (1 : Int))) v.2.1 (IntKind.wrap .i64 (v.2.2.1 - (1 : Int))) k r12_.2.2) fun r14_ =>
 .l (.inl (v.1, (r12_.1, ((IntKind.wrap .i64 (v.2.2.1 - (1 : Int))), ((decide ((IntKind.wrap .i64 (Int.tdiv (IntKind.wrap .i64 (v.2.1 - v.1)) (8 : Int))) ≤ (IntKind.wrap .i64 (v.2.1 - r12_.1)))), (r12_.2.1, r14_)))))))))
 (.c (Int × (Bool × ((List Nat) × Y2))) (wdq v.1 v.2.1 r10_.1 k r9_) fun r15_ =>
 .g (!decide ((8 : Int) = 0)) <|
 .t (decide ((IntKind.wrap .i64 (r15_.1 - v.1)) < (IntKind.wrap .i64 (v.2.1 - r15_.1))))
 (.c ((List Nat) × Y2) (rec_ v.1 r15_.1 (IntKind.wrap .i64 (v.2.2.1 - (1 : Int))) k r15_.2.2) fun r16_ =>
 .l (.inl ((IntKind.wrap .i64 (r15_.1 + (1 : Int))), (v.2.1, ((IntKind.wrap .i64 (v.2.2.1 - (1 : Int))), ((decide ((IntKind.wrap .i64 (Int.tdiv (IntKind.wrap .i64 (v.2.1 - v.1)) (8 : Int))) ≤ (IntKind.wrap .i64 (r15_.1 - v.1)))), (r15_.2.1, r16_)))))))
 (.c ((List Nat) × Y2) (rec_ (IntKind.wrap .i64 (r15_.1 + (1 : Int))) v.2.1 (IntKind.wrap .i64 (v.2.2.1 - (1 : Int))) k r15_.2.2) fun r17_ =>
 .l (.inl (v.1, (r15_.1, ((IntKind.wrap .i64 (v.2.2.1 - (1 : Int))), ((decide ((IntKind.wrap .i64 (Int.tdiv (IntKind.wrap .i64 (v.2.1 - v.1)) (8 : Int))) ≤ (IntKind.wrap .i64 (v.2.1 - r15_.1)))), (r15_.2.1, r17_))))))))))
 (.t (decide ((0 : Int) < v.1))
 (.g (inR (IntKind.wrap .i64 (v.1 - (1 : Int))) (List.length r9_.1)) <|
 .g (decide ((Int.toNat (IntKind.wrap .i64 (v.1 - (1 : Int)))) < List.length r9_.1) && decide ((List.getD r9_.1 (Int.toNat (IntKind.wrap .i64 (v.1 - (1 : Int)))) 0) < List.length r9_.2)) <|
 .g (inR r10_.1 (List.length r9_.1)) <|
 .g (decide ((Int.toNat r10_.1) < List.length r9_.1) && decide ((List.getD r9_.1 (Int.toNat r10_.1) 0) < List.length r9_.2)) <|
 .c (Int) (k ((List.getD r9_.2 (List.getD r9_.1 (Int.toNat (IntKind.wrap .i64 (v.1 - (1 : Int)))) 0) ([] : Y1)), ((List.getD r9_.2 (List.getD r9_.1 (Int.toNat r10_.1) 0) ([] : Y1)), ()))) fun r18_ =>
 .t (!(decide (r18_ < (0 : Int))))
 (.f)
 (.c (Int × (Bool × ((List Nat) × Y2))) (wdq v.1 v.2.1 r10_.1 k r9_) fun r19_ =>
 .g (!decide ((8 : Int) = 0)) <|
 .t (decide ((IntKind.wrap .i64 (r19_.1 - v.1)) < (IntKind.wrap .i64 (v.2.1 - r19_.1))))
 (.c ((List Nat) × Y2) (rec_ v.1 r19_.1 (IntKind.wrap .i64 (v.2.2.1 - (1 : Int))) k r19_.2.2) fun r20_ =>
 .l (.inl ((IntKind.wrap .i64 (r19_.1 + (1 : Int))), (v.2.1, ((IntKind.wrap .i64 (v.2.2.1 - (1 : Int))), ((decide ((IntKind.wrap .i64 (Int.tdiv (IntKind.wrap .i64 (v.2.1 - v.1)) (8 : Int))) ≤ (IntKind.wrap .i64 (r19_.1 - v.1)))), (r19_.2.1, r20_)))))))
 (.c ((List Nat) × Y2) (rec_ (IntKind.wrap .i64 (r19_.1 + (1 : Int))) v.2.1 (IntKind.wrap .i64 (v.2.2.1 - (1 : Int))) k r19_.2.2) fun r21_ =>
 .l (.inl (v.1, (r19_.1, ((IntKind.wrap .i64 (v.2.2.1 - (1 : Int))), ((decide ((IntKind.wrap .i64 (Int.tdiv (IntKind.wrap .i64 (v.2.1 - v.1)) (8 : Int))) ≤ (IntKind.wrap .i64 (v.2.1 - r19_.1)))), (r19_.2.1, r21_)))))))))
 (.c (Int × (Bool × ((List Nat) × Y2))) (wdq v.1 v.2.1 r10_.1 k r9_) fun r22_ =>
 .g (!decide ((8 : Int) = 0)) <|
 .t (decide ((IntKind.wrap .i64 (r22_.1 - v.1)) < (IntKind.wrap .i64 (v.2.1 - r22_.1))))
 (.c ((List Nat) × Y2) (rec_ v.1 r22_.1 (IntKind.wrap .i64 (v.2.2.1 - (1 : Int))) k r22_.2.2) fun r23_ =>
 .l (.inl ((IntKind.wrap .i64 (r22_.1 + (1 : Int))), (v.2.1, ((IntKind.wrap .i64 (v.2.2.1 - (1 : Int))), ((decide ((IntKind.wrap .i64 (Int.tdiv (IntKind.wrap .i64 (v.2.1 - v.1)) (8 : Int))) ≤ (IntKind.wrap .i64 (r22_.1 - v.1)))), (r22_.2.1, r23_)))))))
 (.c ((List Nat) × Y2) (rec_ (IntKind.wrap .i64 (r22_.1 + (1 : Int))) v.2.1 (IntKind.wrap .i64 (v.2.2.1 - (1 : Int))) k r22_.2.2) fun r24_ =>
 .l (.inl (v.1, (r22_.1, ((IntKind.wrap .i64 (v.2.2.1 - (1 : Int))), ((decide ((IntKind.wrap .i64 (Int.tdiv (IntKind.wrap .i64 (v.2.1 - v.1)) (8 : Int))) ≤ (IntKind.wrap .i64 (v.2.1 - r22_.1)))), (r22_.2.1, r24_))))))))))
 (.t (decide ((0 : Int) < v.1))
 (.g (inR (IntKind.wrap .i64 (v.1 - (1 : Int))) (List.length r9_.1)) <|
 .g (decide ((Int.toNat (IntKind.wrap .i64 (v.1 - (1 : Int)))) < List.length r9_.1) && decide ((List.getD r9_.1 (Int.toNat (IntKind.wrap .i64 (v.1 - (1 : Int)))) 0) < List.length r9_.2)) <|
 .g (inR r10_.1 (List.length r9_.1)) <|
 .g (decide ((Int.toNat r10_.1) < List.length r9_.1) && decide ((List.getD r9_.1 (Int.toNat r10_.1) 0) < List.length r9_.2)) <|
 .c (Int) (k ((List.getD r9_.2 (List.getD r9_.1 (Int.toNat (IntKind.wrap .i64 (v.1 - (1 : Int)))) 0) ([] : Y1)), ((List.getD r9_.2 (List.getD r9_.1 (Int.toNat r10_.1) 0) ([] : Y1)), ()))) fun r25_ =>
 .t (!(decide (r25_ < (0 : Int))))
 (.f)
 (.c (Int × (Bool × ((List Nat) × Y2))) (wdq v.1 v.2.1 r10_.1 k r9_) fun r26_ =>
 .g (!decide ((8 : Int) = 0)) <|
 .t (decide ((IntKind.wrap .i64 (r26_.1 - v.1)) < (IntKind.wrap .i64 (v.2.1 - r26_.1))))
 (.c ((List Nat) × Y2) (rec_ v.1 r26_.1 (IntKind.wrap .i64 (v.2.2.1 - (1 : Int))) k r26_.2.2) fun r27_ =>
 .l (.inl ((IntKind.wrap .i64 (r26_.1 + (1 : Int))), (v.2.1, ((IntKind.wrap .i64 (v.2.2.1 - (1 : Int))), ((decide ((IntKind.wrap .i64 (Int.tdiv (IntKind.wrap .i64 (v.2.1 - v.1)) (8 : Int))) ≤ (IntKind.wrap .i64 (r26_.1 - v.1)))), (r26_.2.1, r27_)))))))
 (.c ((List Nat) × Y2) (rec_ (IntKind.wrap .i64 (r26_.1 + (1 : Int))) v.2.1 (IntKind.wrap .i64 (v.2.2.1 - (1 : Int))) k r26_.2.2) fun r28_ =>
 .l (.inl (v.1, (r26_.1, ((IntKind.wrap .i64 (v.2.2.1 - (1 : Int))), ((decide ((IntKind.wrap .i64 (Int.tdiv (IntKind.wrap .i64 (v.2.1 - v.1)) (8 : Int))) ≤ (IntKind.wrap .i64 (v.2.1 - r26_.1)))), (r26_.2.1, r28_)))))))))
 (.c (Int × (Bool × ((List Nat) × Y2))) (wdq v.1 v.2.1 r10_.1 k r9_) fun r29_ =>
 .g (!decide ((8 : Int) = 0)) <|
 .t (decide ((IntKind.wrap .i64 (r29_.1 - v.1)) < (IntKind.wrap .i64 (v.2.1 - r29_.1))))
 (.c ((List Nat) × Y2) (rec_ v.1 r29_.1 (IntKind.wrap .i64 (v.2.2.1 - (1 : Int))) k r29_.2.2) fun r30_ =>
 .l (.inl ((IntKind.wrap .i64 (r29_.1 + (1 : Int))), (v.2.1, ((IntKind.wrap .i64 (v.2.2.1 - (1 : Int))), ((decide ((IntKind.wrap .i64 (Int.tdiv (IntKind.wrap .i64 (v.2.1 - v.1)) (8 : Int))) ≤ (IntKind.wrap .i64 (r29_.1 - v.1)))), (r29_.2.1, r30_)))))))
 (.c ((List Nat) × Y2) (rec_ (IntKind.wrap .i64 (r29_.1 + (1 : Int))) v.2.1 (IntKind.wrap .i64 (v.2.2.1 - (1 : Int))) k r29_.2.2) fun r31_ =>
 .l (.inl (v.1, (r29_.1, ((IntKind.wrap .i64 (v.2.2.1 - (1 : Int))), ((decide ((IntKind.wrap .i64 (Int.tdiv (IntKind.wrap .i64 (v.2.1 - v.1)) (8 : Int))) ≤ (IntKind.wrap .i64 (v.2.1 - r29_.1)))), (r29_.2.1, r31_)))))))))))
 (.c (Int × Int) (waax (waz v.2.2.2.2.2.1 v.2.2.2.2.2.2) v.1 v.2.1 k) fun r32_ =>
 .t (r32_.2 == (2 : Int))
 (.f)
 (.t v.2.2.2.1
 (.t v.2.2.2.2.1
 (.t (r32_.2 == (1 : Int))
 (.f)
 (.t (decide ((0 : Int) < v.1))
 (.g (inR (IntKind.wrap .i64 (v.1 - (1 : Int))) (List.length v.2.2.2.2.2.1)) <|
 .g (decide ((Int.toNat (IntKind.wrap .i64 (v.1 - (1 : Int)))) < List.length v.2.2.2.2.2.1) && decide ((List.getD v.2.2.2.2.2.1 (Int.toNat (IntKind.wrap .i64 (v.1 - (1 : Int)))) 0) < List.length v.2.2.2.2.2.2)) <|
 .g (inR r32_.1 (List.length v.2.2.2.2.2.1)) <|
 .g (decide ((Int.toNat r32_.1) < List.length v.2.2.2.2.2.1) && decide ((List.getD v.2.2.2.2.2.1 (Int.toNat r32_.1) 0) < List.length v.2.2.2.2.2.2)) <|
 .c (Int) (k ((List.getD v.2.2.2.2.2.2 (List.getD v.2.2.2.2.2.1 (Int.toNat (IntKind.wrap .i64 (v.1 - (1 : Int)))) 0) ([] : Y1)), ((List.getD v.2.2.2.2.2.2 (List.getD v.2.2.2.2.2.1 (Int.toNat r32_.1) 0) ([] : Y1)), ()))) fun r33_ =>
 .t (!(decide (r33_ < (0 : Int))))
 (.f)
 (.c (Int × (Bool × ((List Nat) × Y2))) (wdq v.1 v.2.1 r32_.1 k v.2.2.2.2.2) fun r34_ =>
 .g (!decide ((8 : Int) = 0)) <|
 .t (decide ((IntKind.wrap .i64 (r34_.1 - v.1)) < (IntKind.wrap .i64 (v.2.1 - r34_.1))))
 (.c ((List Nat) × Y2) (rec_ v.1 r34_.1 v.2.2.1 k r34_.2.2) fun r35_ =>
 .l (.inl ((IntKind.wrap .i64 (r34_.1 + (1 : Int))), (v.2.1, (v.2.2.1, ((decide ((IntKind.wrap .i64 (Int.tdiv (IntKind.wrap .i64 (v.2.1 - v.1)) (8 : Int))) ≤ (IntKind.wrap .i64 (r34_.1 - v.1)))), (r34_.2.1, r35_)))))))
 (.c ((List Nat) × Y2) (rec_ (IntKind.wrap .i64 (r34_.1 + (1 : Int))) v.2.1 v.2.2.1 k r34_.2.2) fun r36_ =>
 .l (.inl (v.1, (r34_.1, (v.2.2.1, ((decide ((IntKind.wrap .i64 (Int.tdiv (IntKind.wrap .i64 (v.2.1 - v.1)) (8 : Int))) ≤ (IntKind.wrap .i64 (v.2.1 - r34_.1)))), (r34_.2.1, r36_)))))))))
 (.c (Int × (Bool × ((List Nat) × Y2))) (wdq v.1 v.2.1 r32_.1 k v.2.2.2.2.2) fun r37_ =>
 .g (!decide ((8 : Int) = 0)) <|
 .t (decide ((IntKind.wrap .i64 (r37_.1 - v.1)) < (IntKind.wrap .i64 (v.2.1 - r37_.1))))
 (.c ((List Nat) × Y2) (rec_ v.1 r37_.1 v.2.2.1 k r37_.2.2) fun r38_ =>
 .l (.inl ((IntKind.wrap .i64 (r37_.1 + (1 : Int))), (v.2.1, (v.2.2.1, ((decide ((IntKind.wrap .i64 (Int.tdiv (IntKind.wrap .i64 (v.2.1 - v.1)) (8 : Int))) ≤ (IntKind.wrap .i64 (r37_.1 - v.1)))), (r37_.2.1, r38_)))))))
 (.c ((List Nat) × Y2) (rec_ (IntKind.wrap .i64 (r37_.1 + (1 : Int))) v.2.1 v.2.2.1 k r37_.2.2) fun r39_ =>
 .l (.inl (v.1, (r37_.1, (v.2.2.1, ((decide ((IntKind.wrap .i64 (Int.tdiv (IntKind.wrap .i64 (v.2.1 - v.1)) (8 : Int))) ≤ (IntKind.wrap .i64 (v.2.1 - r37_.1)))), (r37_.2.1, r39_))))))))))
 (.t (decide ((0 : Int) < v.1))
 (.g (inR (IntKind.wrap .i64 (v.1 - (1 : Int))) (List.length v.2.2.2.2.2.1)) <|
 .g (decide ((Int.toNat (IntKind.wrap .i64 (v.1 - (1 : Int)))) < List.length v.2.2.2.2.2.1) && decide ((List.getD v.2.2.2.2.2.1 (Int.toNat (IntKind.wrap .i64 (v.1 - (1 : Int)))) 0) < List.length v.2.2.2.2.2.2)) <|
 .g (inR r32_.1 (List.length v.2.2.2.2.2.1)) <|
 .g (decide ((Int.toNat r32_.1) < List.length v.2.2.2.2.2.1) && decide ((List.getD v.2.2.2.2.2.1 (Int.toNat r32_.1) 0) < List.length v.2.2.2.2.2.2)) <|
 .c (Int) (k ((List.getD v.2.2.2.2.2.2 (List.getD v.2.2.2.2.2.1 (Int.toNat (IntKind.wrap .i64 (v.1 - (1 : Int)))) 0) ([] : Y1)), ((List.getD v.2.2.2.2.2.2 (List.getD v.2.2.2.2.2.1 (Int.toNat r32_.1) 0) ([] : Y1)), ()))) fun r40_ =>
 .t (!(decide (r40_ < (0 : Int))))
 (.f)
 (.c (Int × (Bool × ((List Nat) × Y2))) (wdq v.1 v.2.1 r32_.1 k v.2.2.2.2.2) fun r41_ =>
 .g (!decide ((8 : Int) = 0)) <|
 .t (decide ((IntKind.wrap .i64 (r41_.1 - v.1)) < (IntKind.wrap .i64 (v.2.1 - r41_.1))))
 (.c ((List Nat) × Y2) (rec_ v.1 r41_.1 v.2.2.1 k r41_.2.2) fun r42_ =>
 .l (.inl ((IntKind.wrap .i64 (r41_.1 + (1 : Int))), (v.2.1, (v.2.2.1, ((decide ((IntKind.wrap .i64 (Int.tdiv (IntKind.wrap .i64 (v.2.1 - v.1)) (8 : Int))) ≤ (IntKind.wrap .i64 (r41_.1 - v.1)))), (r41_.2.1, r42_)))))))
 (.c ((List Nat) × Y2) (rec_ (IntKind.wrap .i64 (r41_.1 + (1 : Int))) v.2.1 v.2.2.1 k r41_.2.2) fun r43_ =>
 .l (.inl (v.1, (r41_.1, (v.2.2.1, ((decide ((IntKind.wrap .i64 (Int.tdiv (IntKind.wrap .i64 (v.2.1 - v.1)) (8 : Int))) ≤ (IntKind.wrap .i64 (v.2.1 - r41_.1)))), (r41_.2.1, r43_)))))))))
 (.c (Int × (Bool × ((List Nat) × Y2))) (wdq v.1 v.2.1 r32_.1 k v.2.2.2.2.2) fun r44_ =>
 .g (!decide ((8 : Int) = 0)) <|
 .t (decide ((IntKind.wrap .i64 (r44_.1 - v.1)) < (IntKind.wrap .i64 (v.2.1 - r44_.1))))
 (.c ((List Nat) × Y2) (rec_ v.1 r44_.1 v.2.2.1 k r44_.2.2) fun r45_ =>
 .l (.inl ((IntKind.wrap .i64 (r44_.1 + (1 : Int))), (v.2.1, (v.2.2.1, ((decide ((IntKind.wrap .i64 (Int.tdiv (IntKind.wrap .i64 (v.2.1 - v.1)) (8 : Int))) ≤ (IntKind.wrap .i64 (r44_.1 - v.1)))), (r44_.2.1, r45_)))))))
 (.c ((List Nat) × Y2) (rec_ (IntKind.wrap .i64 (r44_.1 + (1 : Int))) v.2.1 v.2.2.1 k r44_.2.2) fun r46_ =>
 .l (.inl (v.1, (r44_.1, (v.2.2.1, ((decide ((IntKind.wrap .i64 (Int.tdiv (IntKind.wrap .i64 (v.2.1 - v.1)) (8 : Int))) ≤ (IntKind.wrap .i64 (v.2.1 - r44_.1)))), (r44_.2.1, r46_))))))))))
 (.t (decide ((0 : Int) < v.1))
 (.g (inR (IntKind.wrap .i64 (v.1 - (1 : Int))) (List.length v.2.2.2.2.2.1)) <|
 .g (decide ((Int.toNat (IntKind.wrap .i64 (v.1 - (1 : Int)))) < List.length v.2.2.2.2.2.1) && decide ((List.getD v.2.2.2.2.2.1 (Int.toNat (IntKind.wrap .i64 (v.1 - (1 : Int)))) 0) < List.length v.2.2.2.2.2.2)) <|
 .g (inR r32_.1 (List.length v.2.2.2.2.2.1)) <|
 .g (decide ((Int.toNat r32_.1) < List.length v.2.2.2.2.2.1) && decide ((List.getD v.2.2.2.2.2.1 (Int.toNat r32_.1) 0) < List.length v.2.2.2.2.2.2)) <|
 .c (Int) (k ((List.getD v.2.2.2.2.2.2 (List.getD v.2.2.2.2.2.1 (Int.toNat (IntKind.wrap .i64 (v.1 - (1 : Int)))) 0) ([] : Y1)), ((List.getD v.2.2.2.2.2.2 (List.getD v.2.2.2.2.2.1 (Int.toNat r32_.1) 0) ([] : Y1)), ()))) fun r47_ =>
 .t (!(decide (r47_ < (0 : Int))))
 (.f)
 (.c (Int × (Bool × ((List Nat) × Y2))) (wdq v.1 v.2.1 r32_.1 k v.2.2.2.2.2) fun r48_ =>
 .g (!decide ((8 : Int) = 0)) <|
 .t (decide ((IntKind.wrap .i64 (r48_.1 - v.1)) < (IntKind.wrap .i64 (v.2.1 - r48_.1))))
 (.c ((List Nat) × Y2) (rec_ v.1 r48_.1 v.2.2.1 k r48_.2.2) fun r49_ =>
 .l (.inl ((IntKind.wrap .i64 (r48_.1 + (1 : Int))), (v.2.1, (v.2.2.1, ((decide ((IntKind.wrap .i64 (Int.tdiv (IntKind.wrap .i64 (v.2.1 - v.1)) (8 : Int))) ≤ (IntKind.wrap .i64 (r48_.1 - v.1)))), (r48_.2.1, r49_)))))))
 (.c ((List Nat) × Y2) (rec_ (IntKind.wrap .i64 (r48_.1 + (1 : Int))) v.2.1 v.2.2.1 k r48_.2.2) fun r50_ =>
 .l (.inl (v.1, (r48_.1, (v.2.2.1, ((decide ((IntKind.wrap .i64 (Int.tdiv (IntKind.wrap .i64 (v.2.1 - v.1)) (8 : Int))) ≤ (IntKind.wrap .i64 (v.2.1 - r48_.1)))), (r48_.2.1, r50_)))))))))
 (.c (Int × (Bool × ((List Nat) × Y2))) (wdq v.1 v.2.1 r32_.1 k v.2.2.2.2.2) fun r51_ =>
 .g (!decide ((8 : Int) = 0)) <|
 .t (decide ((IntKind.wrap .i64 (r51_.1 - v.1)) < (IntKind.wrap .i64 (v.2.1 - r51_.1))))
 (.c ((List Nat) × Y2) (rec_ v.1 r51_.1 v.2.2.1 k r51_.2.2) fun r52_ =>
 .l (.inl ((IntKind.wrap .i64 (r51_.1 + (1 : Int))), (v.2.1, (v.2.2.1, ((decide ((IntKind.wrap .i64 (Int.tdiv (IntKind.wrap .i64 (v.2.1 - v.1)) (8 : Int))) ≤ (IntKind.wrap .i64 (r51_.1 - v.1)))), (r51_.2.1, r52_)))))))
 (.c ((List Nat) × Y2) (rec_ (IntKind.wrap .i64 (r51_.1 + (1 : Int))) v.2.1 v.2.2.1 k r51_.2.2) fun r53_ =>
 .l (.inl (v.1, (r51_.1, (v.2.2.1, ((decide ((IntKind.wrap .i64 (Int.tdiv (IntKind.wrap .i64 (v.2.1 - v.1)) (8 : Int))) ≤ (IntKind.wrap .i64 (v.2.1 - r51_.1)))), (r51_.2.1, r53_)))))))))))))
noncomputable def wsy (rec_ : (Int) → (Int) → (Int) → ((HL [y1, y1] → Option (Int))) → ((List Nat) × Y2) → Option ((List Nat) × Y2)) (k : (HL [y1, y1] → Option (Int))) (v : Int × (Int × (Int × (Bool × (Bool × ((List Nat) × Y2)))))) : Option ((List Nat) × Y2) := wbp (fun v => (wsx rec_ k v).ev) 200 v
noncomputable def waon (rec_ : (Int) → (Int) → (Int) → ((HL [y1, y1] → Option (Int))) → ((List Nat) × Y2) → Option ((List Nat) × Y2)) (a2_ : Int) (a3_ : Int) (a4_ : Int) (a5_ : (HL [y1, y1] → Option (Int))) (a1_ : (List Nat) × Y2) : Tr ((List Nat) × Y2) :=
 .c ((List Nat) × Y2) (wsy rec_ a5_ (a2_, (a3_, (a4_, (true, (true, a1_)))))) fun r55_ =>
 .l r55_
noncomputable def waay : Nat → (Int) → (Int) → (Int) → ((HL [y1, y1] → Option (Int))) → ((List Nat) × Y2) → Option ((List Nat) × Y2)
 | 0 => fun _ _ _ _ _ => none
 | n + 1 => fun a2_ a3_ a4_ a5_ a1_ => (waon (waay n) a2_ a3_ a4_ a5_ a1_).ev
noncomputable def waoo (a2_ : (HL [y1, y1] → Option (Int))) (a1_ : (List Nat) × Y2) : Tr ((List Nat) × Y2) :=
 .c (Int) (waaw (IntKind.wrap .u64 ((List.length a1_.1 : Nat) : Int))) fun r1_ =>
 .c ((List Nat) × Y2) (waay 1000000 (0 : Int) ((List.length a1_.1 : Nat) : Int) r1_ a2_ a1_) fun r2_ =>
 .l r2_
noncomputable def waop (a2_ : (HL [y1, y1] → Option (Int))) (a1_ : (List Nat) × Y2) : Option ((List Nat) × Y2) := (waoo a2_ a1_).ev
noncomputable def wbmd (a1_ : Int) (a2_ : Int) : Tr (Int) :=
 .c (Bool) (wayt a1_) fun r1_ =>
 .c (Bool) (wayt a2_) fun r2_ =>
 .t r1_
 (.t r2_
 (.l (0 : Int))
 (.l (-1 : Int)))
 (.t r2_
 (.l (1 : Int))
 (.t (decide (a1_ < a2_))
 (.l (-1 : Int))
 (.t (decide (a2_ < a1_))
 (.l (1 : Int))
 (.l (0 : Int)))))
noncomputable def wayu (a1_ : Int) (a2_ : Int) : Option (Int) := (wbmd a1_ a2_).ev
noncomputable def wsz (k : Y1 × (Y1 × (Y1 × Int))) (v : Int) : Tr ((Int) ⊕ ((Unit) ⊕ (Int))) :=
 .t (decide (v < k.2.2.2))
 (.g (inR v (List.length k.2.2.1)) <|
 .t (decide (((List.length k.2.1 : Nat) : Int) ≤ v))
 (.l (.inr (.inr (1 : Int))))
 (.g (inR v (List.length k.2.1)) <|
 .c (Int) (wayu (List.getD k.2.2.1 (Int.toNat v) (0 : Int)) (List.getD k.2.1 (Int.toNat v) (0 : Int))) fun r6_ =>
 .t (r6_ != (0 : Int))
 (.l (.inr (.inr r6_)))
 (.l (.inl (IntKind.wrap .i64 (v + (1 : Int)))))))
 (.l (.inr (.inl ())))
noncomputable def wta (k : Y1 × (Y1 × (Y1 × Int))) (v : Int) : Option ((Unit) ⊕ (Int)) := wbp (fun v => (wsz k v).ev) 200 v
noncomputable def waoq (a1_ : Y1) (a2_ : Y1) : Tr (Int) :=
 .c ((Unit) ⊕ (Int)) (wta (a1_, (a2_, (a1_, ((List.length a1_ : Nat) : Int)))) (0 : Int)) fun r10_ =>
 .s (Unit) (Int) r10_
 (fun _ => .t (decide (((List.length a1_ : Nat) : Int) < ((List.length a2_ : Nat) : Int)))
 (.l (-1 : Int))
 (.l (0 : Int)))
 (fun r12_ => .l r12_)
noncomputable def waor (a1_ : Y1) (a2_ : Y1) : Option (Int) := (waoq a1_ a2_).ev
noncomputable def wzc (k : Int × (Y1 × Int)) (v : Int) : Tr ((Int) ⊕ ((Unit) ⊕ (Int))) :=
 .t (decide (v < k.2.2))
 (.g (inR v (List.length k.2.1)) <|
 .t ((List.getD k.2.1 (Int.toNat v) (0 : Int)) != k.1)
 (.l (.inr (.inr (List.getD k.2.1 (Int.toNat v) (0 : Int)))))
 (.l (.inl (IntKind.wrap .i64 (v + (1 : Int))))))
 (.l (.inr (.inl ())))
noncomputable def wzd (k : Int × (Y1 × Int)) (v : Int) : Option ((Unit) ⊕ (Int)) := wbp (fun v => (wzc k v).ev) 200 v
noncomputable def wbme (a1_ : Y1) : Tr (Int) :=
 .c ((Unit) ⊕ (Int)) (wzd ((0 : Int), (a1_, ((List.length a1_ : Nat) : Int))) (0 : Int)) fun r7_ =>
 .s (Unit) (Int) r7_
 (fun _ => .l (0 : Int))
 (fun r9_ => .l r9_)
noncomputable def wbmf (a1_ : Y1) : Option (Int) := (wbme a1_).ev
noncomputable def wbmg (a1_ : Y1) (a2_ : Y1) : Tr (Int) :=
 .c (Int) (wayu ((List.length a1_ : Nat) : Int) ((List.length a2_ : Nat) : Int)) fun r1_ =>
 .c (Int) (waor a1_ a2_) fun r2_ =>
 .c (Int) (wbmf ([r1_, r2_] : Y1)) fun r3_ =>
 .l r3_
noncomputable def wbmh (a1_ : Y1) (a2_ : Y1) : Option (Int) := (wbmg a1_ a2_).ev
noncomputable def wtb (k : Int) (v : Int × Y2) : Tr ((Int × Y2) ⊕ Y2) :=
 .g (decide ((0 : Int) ≤ k)) <|
 .t (decide (v.1 < (IntKind.wrap .u64 ((1 : Int) * 2 ^ (min (Int.toNat k) (IntKind.bits .u64))))))
 (.c Y1 (wbmc v.1) fun r4_ =>
 .g (decide ((List.length v.2 + 1) * 24 ≤ 140737488355328)) <|
 .l (.inl ((IntKind.wrap .u64 (v.1 + (1 : Int))), (List.set (v.2 ++ [[]]) (List.length v.2) r4_))))
 (.l (.inr v.2))
noncomputable def wtc (k : Int) (v : Int × Y2) : Option Y2 := wbp (fun v => (wtb k v).ev) 200 v
noncomputable def waos (a1_ : Int) : Tr ((List Nat) × Y2) :=
 .c Y2 (wtc a1_ ((1 : Int), ([] : List Y1))) fun r6_ =>
 .c ((List Nat) × Y2) (waop (fun h7_ => Option.bind (wbmh h7_.1 h7_.2.1) fun y8_ => some y8_) ((List.range (List.length r6_)), r6_)) fun r9_ =>
 .l r9_
noncomputable def waot (a1_ : Int) : Option ((List Nat) × Y2) := (waos a1_).ev
noncomputable def wtd (k : Int × Int) (v : Int × Y1) : Tr ((Int × Y1) ⊕ Y1) :=
 .t (decide (v.1 < k.1))
 (.g (decide ((0 : Int) ≤ v.1)) <|
 .t ((IntKind.wrap .i64 (BitVec.toNat ((BitVec.ofInt (IntKind.bits .i64) (Int.fdiv k.2 (2 ^ (min (Int.toNat v.1) (IntKind.bits .i64))))) &&& (BitVec.ofInt (IntKind.bits .i64) (1 : Int))))) == (1 : Int))
 (.g (decide ((List.length v.2 + List.length ([v.1] : Y1)) * 8 ≤ 140737488355328)) <|
 .l (.inl ((IntKind.wrap .i64 (v.1 + (1 : Int))), (v.2 ++ ([v.1] : Y1)))))
 (.l (.inl ((IntKind.wrap .i64 (v.1 + (1 : Int))), v.2))))
 (.l (.inr v.2))
noncomputable def wte (k : Int × Int) (v : Int × Y1) : Option Y1 := wbp (fun v => (wtd k v).ev) 200 v
noncomputable def waou (a1_ : Int) (a2_ : Int) : Tr Y1 :=
 .c Y1 (wte (a1_, a2_) ((0 : Int), ([] : Y1))) fun r6_ =>
 .l r6_
noncomputable def waov (a1_ : Int) (a2_ : Int) : Option Y1 := (waou a1_ a2_).ev
noncomputable def wtf (k : Y1 × Y1) (v : Int) : Tr ((Int) ⊕ ((Unit) ⊕ (Bool))) :=
 .t (decide (v < ((List.length k.1 : Nat) : Int)))
 (.g (inR v (List.length k.1)) <|
 .g (inR v (List.length k.2)) <|
 .t ((List.getD k.1 (Int.toNat v) (0 : Int)) != (List.getD k.2 (Int.toNat v) (0 : Int)))
 (.g (inR v (List.length k.1)) <|
 .g (inR v (List.length k.2)) <|
 .l (.inr (.inr (decide ((List.getD k.1 (Int.toNat v) (0 : Int)) < (List.getD k.2 (Int.toNat v) (0 : Int)))))))
 (.l (.inl (IntKind.wrap .i64 (v + (1 : Int))))))
 (.l (.inr (.inl ())))
noncomputable def wtg (k : Y1 × Y1) (v : Int) : Option ((Unit) ⊕ (Bool)) := wbp (fun v => (wtf k v).ev) 200 v
noncomputable def waow (a1_ : Y1) (a2_ : Y1) : Tr (Bool) :=
 .t (((List.length a1_ : Nat) : Int) != ((List.length a2_ : Nat) : Int))
 (.l (decide (((List.length a1_ : Nat) : Int) < ((List.length a2_ : Nat) : Int))))
 (.c ((Unit) ⊕ (Bool)) (wtg (a1_, a2_) (0 : Int)) fun r5_ =>
 .s (Unit) (Bool) r5_
 (fun _ => .l false)
 (fun r7_ => .l r7_))
noncomputable def waox (a1_ : Y1) (a2_ : Y1) : Option (Bool) := (waow a1_ a2_).ev
noncomputable def wth (k : Int × (Y2 × (Int × Y1))) (v : Int) : Tr ((Int) ⊕ (Int)) :=
 .t (decide ((0 : Int) < v))
 (.g (inR (IntKind.wrap .i64 (v - (1 : Int))) (List.length k.2.1)) <|
 .c (Bool) (waox k.2.2.2 (List.getD k.2.1 (Int.toNat (IntKind.wrap .i64 (v - (1 : Int)))) ([] : Y1))) fun r26_ =>
 .t r26_
 (.l (.inl (IntKind.wrap .i64 (v - (1 : Int)))))
 (.l (.inr v)))
 (.l (.inr v))
noncomputable def wti (k : Int × (Y2 × (Int × Y1))) (v : Int) : Option (Int) := wbp (fun v => (wth k v).ev) 200 v
noncomputable def wtj (k : Int) (v : Y2 × Int) : Tr ((Y2 × Int) ⊕ Y2) :=
 .g (decide ((0 : Int) ≤ k)) <|
 .t (decide (v.2 < (IntKind.wrap .i64 ((1 : Int) * 2 ^ (min (Int.toNat k) (IntKind.bits .i64))))))
 (.c Y1 (waov k v.2) fun r20_ =>
 .c (Int) (wti (k, (v.1, (v.2, r20_))) ((List.length v.1 : Nat) : Int)) fun r32_ =>
 .g (decide ((0 : Int) ≤ r32_) && decide (r32_ ≤ ((List.length v.1 : Nat) : Int))) <|
 .g (decide ((List.length ([] : List Y1) + List.length (List.drop 0 (List.take (Int.toNat r32_) v.1))) * 24 ≤ 140737488355328)) <|
 .g (decide ((List.length (([] : List Y1) ++ (List.drop 0 (List.take (Int.toNat r32_) v.1))) + List.length ([r20_] : List Y1)) * 24 ≤ 140737488355328)) <|
 .g (decide ((0 : Int) ≤ r32_) && decide (r32_ ≤ ((List.length v.1 : Nat) : Int))) <|
 .g (decide ((List.length ((([] : List Y1) ++ (List.drop 0 (List.take (Int.toNat r32_) v.1))) ++ ([r20_] : List Y1)) + List.length (List.drop (Int.toNat r32_) (List.take (List.length v.1) v.1))) * 24 ≤ 140737488355328)) <|
 .l (.inl ((((([] : List Y1) ++ (List.drop 0 (List.take (Int.toNat r32_) v.1))) ++ ([r20_] : List Y1)) ++ (List.drop (Int.toNat r32_) (List.take (List.length v.1) v.1))), (IntKind.wrap .i64 (v.2 + (1 : Int))))))
 (.l (.inr v.1))
noncomputable def wtk (k : Int) (v : Y2 × Int) : Option Y2 := wbp (fun v => (wtj k v).ev) 200 v
noncomputable def waoy (a1_ : Int) : Tr Y2 :=
 .c Y2 (wtk a1_ (([] : List Y1), (1 : Int))) fun r34_ =>
 .l r34_
noncomputable def waoz (a1_ : Int) : Option Y2 := (waoy a1_).ev
end Go.Proofs.YtbofjefpngpegaaGreat
