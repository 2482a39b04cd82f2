import Derived.Test.YtnagpmhaddfgmaaGreatC3
import Derived.Test.YtnagpmhaddfgmaaGreatProg
namespace Go.Proofs.YtnagpmhaddfgmaaGreat
open Go.Proofs.Tryz
open List (length getD set)
open Int (toNat)
open IntKind (wrap)
noncomputable def T_zj (a1_ : Y1) (a2_ : List Y1) (a3_ : Y1) : Tr Yak :=
 .c (Int) (wif a1_ a2_ a3_) fun r1_ =>
 .c (Yi ⊕ Ym) (F_zn a1_ a2_ a3_ a1_ a2_ r1_) fun r2_ =>
 .s Yi Ym r2_
 (fun _ => .l (false, ([] : Y1)))
 (fun r4_ => .g (decide (0 < length r4_.2.2.2)) <|
 .l (true, r4_.2.2.2))
noncomputable def F_zj (a1_ : Y1) (a2_ : List Y1) (a3_ : Y1) : Option Yak := (T_zj a1_ a2_ a3_).ev
noncomputable def K_zj : RetK := { acts := [.own 4 0 3 yi, .ren 896 0], res := [.tmp 4, .tmp 5], sh := (yj [.arr 0, .dat .bool]), obs := [Zal], pins := [] }
noncomputable def D_zj : FD := yd (yj [.agg Ze, .dat y1]) [] [] Yak (fun x => F_zj x.1.1.1 x.1.1.2.1 x.1.2.1) (fun r => ([.arr 0, .dat .bool r.1], [(0, .arr 3 yi r.2)]))
noncomputable def wct (k : Y1 × Y2) (v : Int × Y1) : Tr (Yab ⊕ Yab) :=
 .c Yak (F_zj k.1 k.2 v.2) fun r7_ =>
 .t (!r7_.1)
 (.l (.inr (v.1, v.2)))
 (.l (.inl ((wrap .i64 (v.1 + 1)), r7_.2)))
noncomputable def wcu (k : Y1 × Y2) (v : Int × Y1) : Option Yab := iter (fun v => (wct k v).ev) v
noncomputable def wik : LD := ⟨{ acts := [.rep 1408 1024], S := { slots := [2, 7, 8], sh := (yj [.box 2 0, .arr 1024, .dat yi]), obs := [(2, .cells Ze), (1024, .arr 3 yi)] } }, [], { acts := [], S := { slots := [4, 5, 6], sh := (yj [.arr 1024, .dat yi, .dat .bool]), obs := [(1024, .arr 3 yi)] } }, Y1 × Y2, Int × Y1, Int × Y1, fun k v => (((), ((), (v.1, ()))), ((k.1, (k.2, ())), (v.2, ()))), fun t => (t.2.1.1, t.2.1.2.1), fun t => (t.1.2.2.1, t.2.2.1), wct, fun _ r => .l (.ret (mkSt ({ slots := [4, 5, 6], sh := (yj [.arr 1024, .dat yi, .dat .bool]), obs := [(1024, .arr 3 yi)] }) (((), (r.1, (true, ()))), (r.2, ()))))⟩
noncomputable def T_zw (a1_ : Y1) (a2_ : List Y1) (a3_ : Y1) : Tr (Int × Yak) :=
 .c (Bool) (wlw a1_ a2_ a3_) fun r1_ =>
 .t (!r1_)
 (.l ((0 : Int), (false, ([] : Y1))))
 (.c (List Int) (wce a3_) fun r2_ =>
 .c Yab (wcu (a1_, a2_) ((0 : Int), r2_)) fun r11_ =>
 .l (r11_.1, (true, r11_.2)))
noncomputable def F_zw (a1_ : Y1) (a2_ : List Y1) (a3_ : Y1) : Option (Int × Yak) := (T_zw a1_ a2_ a3_).ev
noncomputable def K_zw : RetK := { acts := [.own 4 0 3 yi, .ren 1024 0], res := [.tmp 4, .tmp 5, .tmp 6], sh := (yj [.arr 0, .dat yi, .dat .bool]), obs := [Zal], pins := [] }
noncomputable def D_zw : FD := yd (yj [.agg Ze, .dat y1]) [] [] (Int × Yak) (fun x => F_zw x.1.1.1 x.1.1.2.1 x.1.2.1) (fun r => ([.arr 0, .dat yi r.1, .dat .bool r.2.1], [(0, .arr 3 yi r.2.2)]))
noncomputable def E_zw : Env := envOf [(99, wuw), (146, whs), (171, D_zj)]
noncomputable def O_zw : List (Nat × LD) := [(0, wik)]
noncomputable def C_zw : Code := (f77.body).getD .skip
noncomputable def wabu (a1_ : Int) : Tr (Int) :=
 .t (decide (4294967296 ≤ a1_))
 (.g (decide ((0 : Int) ≤ (32 : Int))) <|
 .t (decide ((65536 : Int) ≤ (Int.fdiv a1_ (2 ^ (min (toNat 32) Zb)))))
 (.g (decide ((0 : Int) ≤ (16 : Int))) <|
 .t (decide ((256 : Int) ≤ (Int.fdiv (Int.fdiv a1_ (2 ^ (min (toNat 32) Zb))) (2 ^ (min (toNat 16) Zb)))))
 (.g (decide ((0 : Int) ≤ (8 : Int))) <|
 .g (inR (wrap .u8 (Int.fdiv (Int.fdiv (Int.fdiv a1_ (2 ^ (min (toNat 32) Zb))) (2 ^ (min (toNat 16) Zb))) (2 ^ (min (toNat 8) Zb)))) (length Za)) <|
 .l (wrap .i64 ((wrap .i64 ((wrap .i64 ((32 : Int) + 16)) + 8)) + (wrap .i64 ((UInt8.toNat (getD Za (toNat (wrap .u8 (Int.fdiv (Int.fdiv (Int.fdiv a1_ (2 ^ (min (toNat 32) Zb))) (2 ^ (min (toNat 16) Zb))) (2 ^ (min (toNat 8) Zb))))) 0) : Nat) : Int)))))
 (.g (inR (wrap .u8 (Int.fdiv (Int.fdiv a1_ (2 ^ (min (toNat 32) Zb))) (2 ^ (min (toNat 16) Zb)))) (length Za)) <|
 .l (wrap .i64 ((wrap .i64 ((32 : Int) + 16)) + (wrap .i64 ((UInt8.toNat (getD Za (toNat (wrap .u8 (Int.fdiv (Int.fdiv a1_ (2 ^ (min (toNat 32) Zb))) (2 ^ (min (toNat 16) Zb))))) 0) : Nat) : Int))))))
 (.t (decide ((256 : Int) ≤ (Int.fdiv a1_ (2 ^ (min (toNat 32) Zb)))))
 (.g (decide ((0 : Int) ≤ (8 : Int))) <|
 .g (inR (wrap .u8 (Int.fdiv (Int.fdiv a1_ (2 ^ (min (toNat 32) Zb))) (2 ^ (min (toNat 8) Zb)))) (length Za)) <|
 .l (wrap .i64 ((wrap .i64 ((32 : Int) + 8)) + (wrap .i64 ((UInt8.toNat (getD Za (toNat (wrap .u8 (Int.fdiv (Int.fdiv a1_ (2 ^ (min (toNat 32) Zb))) (2 ^ (min (toNat 8) Zb))))) 0) : Nat) : Int)))))
 (.g (inR (wrap .u8 (Int.fdiv a1_ (2 ^ (min (toNat 32) Zb)))) (length Za)) <|
 .l (wrap .i64 ((32 : Int) + (wrap .i64 ((UInt8.toNat (getD Za (toNat (wrap .u8 (Int.fdiv a1_ (2 ^ (min (toNat 32) Zb))))) 0) : Nat) : Int)))))))
 (.t (decide (65536 ≤ a1_))
 (.g (decide ((0 : Int) ≤ (16 : Int))) <|
 .t (decide ((256 : Int) ≤ (Int.fdiv a1_ (2 ^ (min (toNat 16) Zb)))))
 (.g (decide ((0 : Int) ≤ (8 : Int))) <|
 .g (inR (wrap .u8 (Int.fdiv (Int.fdiv a1_ (2 ^ (min (toNat 16) Zb))) (2 ^ (min (toNat 8) Zb)))) (length Za)) <|
 .l (wrap .i64 ((wrap .i64 ((wrap .i64 ((0 : Int) + 16)) + 8)) + (wrap .i64 ((UInt8.toNat (getD Za (toNat (wrap .u8 (Int.fdiv (Int.fdiv a1_ (2 ^ (min (toNat 16) Zb))) (2 ^ (min (toNat 8) Zb))))) 0) : Nat) : Int)))))
 (.g (inR (wrap .u8 (Int.fdiv a1_ (2 ^ (min (toNat 16) Zb)))) (length Za)) <|
 .l (wrap .i64 ((wrap .i64 ((0 : Int) + 16)) + (wrap .i64 ((UInt8.toNat (getD Za (toNat (wrap .u8 (Int.fdiv a1_ (2 ^ (min (toNat 16) Zb))))) 0) : Nat) : Int))))))
 (.t (decide (256 ≤ a1_))
 (.g (decide ((0 : Int) ≤ (8 : Int))) <|
 .g (inR (wrap .u8 (Int.fdiv a1_ (2 ^ (min (toNat 8) Zb)))) (length Za)) <|
 .l (wrap .i64 ((wrap .i64 ((0 : Int) + 8)) + (wrap .i64 ((UInt8.toNat (getD Za (toNat (wrap .u8 (Int.fdiv a1_ (2 ^ (min (toNat 8) Zb))))) 0) : Nat) : Int)))))
 (.g (inR (wrap .u8 a1_) (length Za)) <|
 .l (wrap .i64 ((0 : Int) + (wrap .i64 ((UInt8.toNat (getD Za (toNat (wrap .u8 a1_)) 0) : Nat) : Int)))))))
noncomputable def wabv (a1_ : Int) : Option (Int) := (wabu a1_).ev
noncomputable def walg : RetK := yr [.tmp 2] Zg
noncomputable def wvc : FD := yd Zah [] [] Int (fun x => wabv x.1.1) (fun r => ([.dat yi r], []))
noncomputable def wabw (a1_ : Int) : Tr (Int) :=
 .c (Int) (wabv a1_) fun r1_ =>
 .l r1_
noncomputable def wvd (a1_ : Int) : Option (Int) := (wabw a1_).ev
noncomputable def walh : RetK := yr [.tmp 2] Zg
noncomputable def wly : FD := yd Zah [] [] Int (fun x => wvd x.1.1) (fun r => ([.dat yi r], []))
noncomputable def wil (k : Int × (Int × ((Yf) × Int))) (v : Int × Yc) : Tr ((Int × Yc) ⊕ Yc) :=
 .t (decide (k.1 < v.1))
 (.g (inR v.1 (length v.2.1)) <|
 .g (decide ((toNat v.1) < length v.2.1) && decide ((getD v.2.1 (toNat v.1) 0) < length v.2.2)) <|
 .g (inR (wrap .i64 (v.1 - 1)) (length v.2.1)) <|
 .g (decide ((toNat (wrap .i64 (v.1 - 1))) < length v.2.1) && decide ((getD v.2.1 (toNat (wrap .i64 (v.1 - 1))) 0) < length v.2.2)) <|
 .c (Int) (k.2.2.1 ((getD v.2.2 (getD v.2.1 (toNat v.1) 0) ([] : Y1)), ((getD v.2.2 (getD v.2.1 (toNat (wrap .i64 (v.1 - 1))) 0) ([] : Y1)), ()))) fun r12_ =>
 .t (decide (r12_ < 0))
 (.g (inR (wrap .i64 (v.1 - 1)) (length v.2.1)) <|
 .g (decide ((toNat (wrap .i64 (v.1 - 1))) < length v.2.1) && decide ((getD v.2.1 (toNat (wrap .i64 (v.1 - 1))) 0) < length v.2.2)) <|
 .g (inR v.1 (length v.2.1)) <|
 .g (decide ((toNat v.1) < length v.2.1) && decide ((getD v.2.1 (toNat v.1) 0) < length v.2.2)) <|
 .g (inR v.1 (length v.2.1)) <|
 .g (decide ((toNat v.1) < length v.2.1)) <|
 .g (inR (wrap .i64 (v.1 - 1)) (length (set v.2.1 (toNat v.1) (getD v.2.1 (toNat (wrap .i64 (v.1 - 1))) 0)))) <|
 .g (decide ((toNat (wrap .i64 (v.1 - 1))) < length (set v.2.1 (toNat v.1) (getD v.2.1 (toNat (wrap .i64 (v.1 - 1))) 0)))) <|
 .l (.inl ((wrap .i64 (v.1 - 1)), ((set (set v.2.1 (toNat v.1) (getD v.2.1 (toNat (wrap .i64 (v.1 - 1))) 0)) (toNat (wrap .i64 (v.1 - 1))) (getD v.2.1 (toNat v.1) 0)), v.2.2))))
 (.l (.inr v.2)))
 (.l (.inr v.2))
noncomputable def wve (k : Int × (Int × ((Yf) × Int))) (v : Int × Yc) : Option Yc := iter (fun v => (wil k v).ev) v
noncomputable def wew : LD := ⟨{ acts := [], S := { slots := [0, 1, 2, 3, 8, 9], sh := (yj [.arr 64, .dat yi, .dat yi, .clo [y1, y1] yi, .dat yi, .dat yi]), obs := [Zp] } }, [(2, { acts := [], S := { slots := [0, 1, 2, 3, 8], sh := (yj [.arr 64, .dat yi, .dat yi, .clo [y1, y1] yi, .dat yi]), obs := [Zp] } })], (yh [] .nil), Int × (Int × ((Yf) × Int)), Int × Yc, (List Nat) × Y2, fun k v => (((), (k.1, (k.2.1, (k.2.2.1, (k.2.2.2, (v.1, ())))))), (v.2, ())), fun t => (t.1.2.1, (t.1.2.2.1, (t.1.2.2.2.1, t.1.2.2.2.2.1))), fun t => (t.1.2.2.2.2.2.1, t.2.1), wil, fun k r => .l (.exit 2 (mkSt ({ slots := [0, 1, 2, 3, 8], sh := (yj [.arr 64, .dat yi, .dat yi, .clo [y1, y1] yi, .dat yi]), obs := [Zp] }) (((), (k.1, (k.2.1, (k.2.2.1, (k.2.2.2, ()))))), (r, ()))))⟩
noncomputable def wim (k : Int × (Int × (Yf))) (v : Int × Yc) : Tr ((Int × Yc) ⊕ Yc) :=
 .t (decide (v.1 < k.2.1))
 (.c Yc (wve (k.1, (k.2.1, (k.2.2, v.1))) (v.1, v.2)) fun r18_ =>
 .l (.inl ((wrap .i64 (v.1 + 1)), r18_)))
 (.l (.inr v.2))
noncomputable def wvf (k : Int × (Int × (Yf))) (v : Int × Yc) : Option Yc := iter (fun v => (wim k v).ev) v
noncomputable def wex : LD := ⟨{ acts := [], S := { slots := [0, 1, 2, 3, 8], sh := (yj [.arr 64, .dat yi, .dat yi, .clo [y1, y1] yi, .dat yi]), obs := [Zp] } }, [(0, { acts := [], S := { slots := [0], sh := (yj [.arr 64]), obs := [Zp] } })], (yh [] .nil), Int × (Int × (Yf)), Int × Yc, (List Nat) × Y2, fun k v => (((), (k.1, (k.2.1, (k.2.2, (v.1, ()))))), (v.2, ())), fun t => (t.1.2.1, (t.1.2.2.1, t.1.2.2.2.1)), fun t => (t.1.2.2.2.2.1, t.2.1), wim, fun _ r => .l (.exit 0 (mkSt ({ slots := [0], sh := (yj [.arr 64]), obs := [Zp] }) (((), ()), (r, ()))))⟩
noncomputable def wabx (a2_ : Int) (a3_ : Int) (a4_ : Yf) (a1_ : (List Nat) × Y2) : Tr Yc :=
 .c Yc (wvf (a2_, (a3_, a4_)) ((wrap .i64 (a2_ + 1)), a1_)) fun r20_ =>
 .l r20_
noncomputable def waby (a2_ : Int) (a3_ : Int) (a4_ : Yf) (a1_ : (List Nat) × Y2) : Option Yc := (wabx a2_ a3_ a4_ a1_).ev
noncomputable def wali : RetK := { acts := [], res := [], sh := .nil, obs := [Zp], pins := [(0, 0, 64)] }
noncomputable def wvg : FD := yd (yj [.arr 64, .dat yi, .dat yi, .clo [y1, y1] yi]) [Zp] [.arg 0] Yc (fun x => waby x.1.2.1 x.1.2.2.1 x.1.2.2.2.1 x.2.1) (fun r => ([], [(64, .perm false 24 3 yi r.1 r.2)]))
noncomputable def wlz : Env := envOf []
noncomputable def wma : List (Nat × LD) := [(2, wew), (0, wex)]
noncomputable def wmb : Code := (f251.body).getD .skip
noncomputable def wabz (a1_ : Int) : Tr (Int) :=
 .c (Int) (wvd (wrap .u64 a1_)) fun r1_ =>
 .g (decide (0 ≤ r1_)) <|
 .l (wrap .u64 ((1 : Int) * 2 ^ (min (toNat r1_) Zb)))
noncomputable def waca (a1_ : Int) : Option (Int) := (wabz a1_).ev
noncomputable def walj : RetK := yr [.tmp 2] Zah
noncomputable def wvh : FD := yd Zg [] [] Int (fun x => waca x.1.1) (fun r => ([.dat (.int .u64) r], []))
noncomputable def wacb (a1_ : Int) : Tr Yq :=
 .g (decide ((0 : Int) ≤ (13 : Int))) <|
 .g (decide ((0 : Int) ≤ (7 : Int))) <|
 .g (decide ((0 : Int) ≤ (17 : Int))) <|
 .l ((wrap .u64 (BitVec.toNat ((BitVec.ofInt Zb (wrap .u64 (BitVec.toNat ((BitVec.ofInt Zb (wrap .u64 (BitVec.toNat ((BitVec.ofInt Zb a1_) ^^^ (BitVec.ofInt Zb (wrap .u64 (a1_ * 2 ^ (min (toNat 13) Zb)))))))) ^^^ (BitVec.ofInt Zb (Int.fdiv (wrap .u64 (BitVec.toNat ((BitVec.ofInt Zb a1_) ^^^ (BitVec.ofInt Zb (wrap .u64 (a1_ * 2 ^ (min (toNat 13) Zb))))))) (2 ^ (min (toNat 7) Zb)))))))) ^^^ (BitVec.ofInt Zb (wrap .u64 ((wrap .u64 (BitVec.toNat ((BitVec.ofInt Zb (wrap .u64 (BitVec.toNat ((BitVec.ofInt Zb a1_) ^^^ (BitVec.ofInt Zb (wrap .u64 (a1_ * 2 ^ (min (toNat 13) Zb)))))))) ^^^ (BitVec.ofInt Zb (Int.fdiv (wrap .u64 (BitVec.toNat ((BitVec.ofInt Zb a1_) ^^^ (BitVec.ofInt Zb (wrap .u64 (a1_ * 2 ^ (min (toNat 13) Zb))))))) (2 ^ (min (toNat 7) Zb))))))) * 2 ^ (min (toNat 17) Zb))))))), (wrap .u64 (BitVec.toNat ((BitVec.ofInt Zb (wrap .u64 (BitVec.toNat ((BitVec.ofInt Zb (wrap .u64 (BitVec.toNat ((BitVec.ofInt Zb a1_) ^^^ (BitVec.ofInt Zb (wrap .u64 (a1_ * 2 ^ (min (toNat 13) Zb)))))))) ^^^ (BitVec.ofInt Zb (Int.fdiv (wrap .u64 (BitVec.toNat ((BitVec.ofInt Zb a1_) ^^^ (BitVec.ofInt Zb (wrap .u64 (a1_ * 2 ^ (min (toNat 13) Zb))))))) (2 ^ (min (toNat 7) Zb)))))))) ^^^ (BitVec.ofInt Zb (wrap .u64 ((wrap .u64 (BitVec.toNat ((BitVec.ofInt Zb (wrap .u64 (BitVec.toNat ((BitVec.ofInt Zb a1_) ^^^ (BitVec.ofInt Zb (wrap .u64 (a1_ * 2 ^ (min (toNat 13) Zb)))))))) ^^^ (BitVec.ofInt Zb (Int.fdiv (wrap .u64 (BitVec.toNat ((BitVec.ofInt Zb a1_) ^^^ (BitVec.ofInt Zb (wrap .u64 (a1_ * 2 ^ (min (toNat 13) Zb))))))) (2 ^ (min (toNat 7) Zb))))))) * 2 ^ (min (toNat 17) Zb))))))))
noncomputable def wacc (a1_ : Int) : Option Yq := (wacb a1_).ev
noncomputable def walm : RetK := { acts := [], res := [.tmp 2], sh := Zah, obs := [(64, .cells Zah)], pins := [(0, 0, 64)] }
noncomputable def wvi : FD := yd (yj [.box 64 0]) [(64, .cells Zah)] [.arg 0] (Int × (Int)) (fun x => wacc x.2.1.1) (fun r => ([.dat (.int .u64) r.1], [(64, .cells [.dat (.int .u64) r.2])]))
noncomputable def wio (k : Int × Yq) (v : Int × (Yc × Int)) : Tr ((Int × (Yc × Int)) ⊕ Yc) :=
 .g (!decide ((4 : Int) = 0)) <|
 .t (decide (v.1 ≤ (wrap .i64 ((wrap .i64 (k.1 + (wrap .i64 ((wrap .i64 (Int.tdiv k.2.1 (4 : Int))) * (2 : Int))))) + 1))))
 (.c Yq (wacc v.2.2) fun r8_ =>
 .t (decide (k.2.1 ≤ (wrap .i64 (wrap .u64 (BitVec.toNat ((BitVec.ofInt Zb r8_.1) &&& (BitVec.ofInt Zb (wrap .u64 (k.2.2 - 1)))))))))
 (.g (inR (wrap .i64 (k.1 + (wrap .i64 ((wrap .i64 (wrap .u64 (BitVec.toNat ((BitVec.ofInt Zb r8_.1) &&& (BitVec.ofInt Zb (wrap .u64 (k.2.2 - 1))))))) - k.2.1)))) (length v.2.1.1)) <|
 .g (decide ((toNat (wrap .i64 (k.1 + (wrap .i64 ((wrap .i64 (wrap .u64 (BitVec.toNat ((BitVec.ofInt Zb r8_.1) &&& (BitVec.ofInt Zb (wrap .u64 (k.2.2 - 1))))))) - k.2.1))))) < length v.2.1.1) && decide ((getD v.2.1.1 (toNat (wrap .i64 (k.1 + (wrap .i64 ((wrap .i64 (wrap .u64 (BitVec.toNat ((BitVec.ofInt Zb r8_.1) &&& (BitVec.ofInt Zb (wrap .u64 (k.2.2 - 1))))))) - k.2.1))))) 0) < length v.2.1.2)) <|
 .g (inR v.1 (length v.2.1.1)) <|
 .g (decide ((toNat v.1) < length v.2.1.1) && decide ((getD v.2.1.1 (toNat v.1) 0) < length v.2.1.2)) <|
 .g (inR v.1 (length v.2.1.1)) <|
 .g (decide ((toNat v.1) < length v.2.1.1)) <|
 .g (inR (wrap .i64 (k.1 + (wrap .i64 ((wrap .i64 (wrap .u64 (BitVec.toNat ((BitVec.ofInt Zb r8_.1) &&& (BitVec.ofInt Zb (wrap .u64 (k.2.2 - 1))))))) - k.2.1)))) (length (set v.2.1.1 (toNat v.1) (getD v.2.1.1 (toNat (wrap .i64 (k.1 + (wrap .i64 ((wrap .i64 (wrap .u64 (BitVec.toNat ((BitVec.ofInt Zb r8_.1) &&& (BitVec.ofInt Zb (wrap .u64 (k.2.2 - 1))))))) - k.2.1))))) 0)))) <|
 .g (decide ((toNat (wrap .i64 (k.1 + (wrap .i64 ((wrap .i64 (wrap .u64 (BitVec.toNat ((BitVec.ofInt Zb r8_.1) &&& (BitVec.ofInt Zb (wrap .u64 (k.2.2 - 1))))))) - k.2.1))))) < length (set v.2.1.1 (toNat v.1) (getD v.2.1.1 (toNat (wrap .i64 (k.1 + (wrap .i64 ((wrap .i64 (wrap .u64 (BitVec.toNat ((BitVec.ofInt Zb r8_.1) &&& (BitVec.ofInt Zb (wrap .u64 (k.2.2 - 1))))))) - k.2.1))))) 0)))) <|
 .l (.inl ((wrap .i64 (v.1 + 1)), (((set (set v.2.1.1 (toNat v.1) (getD v.2.1.1 (toNat (wrap .i64 (k.1 + (wrap .i64 ((wrap .i64 (wrap .u64 (BitVec.toNat ((BitVec.ofInt Zb r8_.1) &&& (BitVec.ofInt Zb (wrap .u64 (k.2.2 - 1))))))) - k.2.1))))) 0)) (toNat (wrap .i64 (k.1 + (wrap .i64 ((wrap .i64 (wrap .u64 (BitVec.toNat ((BitVec.ofInt Zb r8_.1) &&& (BitVec.ofInt Zb (wrap .u64 (k.2.2 - 1))))))) - k.2.1))))) (getD v.2.1.1 (toNat v.1) 0)), v.2.1.2), r8_.2))))
 (.g (inR (wrap .i64 (k.1 + (wrap .i64 (wrap .u64 (BitVec.toNat ((BitVec.ofInt Zb r8_.1) &&& (BitVec.ofInt Zb (wrap .u64 (k.2.2 - 1))))))))) (length v.2.1.1)) <|
 .g (decide ((toNat (wrap .i64 (k.1 + (wrap .i64 (wrap .u64 (BitVec.toNat ((BitVec.ofInt Zb r8_.1) &&& (BitVec.ofInt Zb (wrap .u64 (k.2.2 - 1)))))))))) < length v.2.1.1) && decide ((getD v.2.1.1 (toNat (wrap .i64 (k.1 + (wrap .i64 (wrap .u64 (BitVec.toNat ((BitVec.ofInt Zb r8_.1) &&& (BitVec.ofInt Zb (wrap .u64 (k.2.2 - 1)))))))))) 0) < length v.2.1.2)) <|
 .g (inR v.1 (length v.2.1.1)) <|
 .g (decide ((toNat v.1) < length v.2.1.1) && decide ((getD v.2.1.1 (toNat v.1) 0) < length v.2.1.2)) <|
 .g (inR v.1 (length v.2.1.1)) <|
 .g (decide ((toNat v.1) < length v.2.1.1)) <|
 .g (inR (wrap .i64 (k.1 + (wrap .i64 (wrap .u64 (BitVec.toNat ((BitVec.ofInt Zb r8_.1) &&& (BitVec.ofInt Zb (wrap .u64 (k.2.2 - 1))))))))) (length (set v.2.1.1 (toNat v.1) (getD v.2.1.1 (toNat (wrap .i64 (k.1 + (wrap .i64 (wrap .u64 (BitVec.toNat ((BitVec.ofInt Zb r8_.1) &&& (BitVec.ofInt Zb (wrap .u64 (k.2.2 - 1)))))))))) 0)))) <|
 .g (decide ((toNat (wrap .i64 (k.1 + (wrap .i64 (wrap .u64 (BitVec.toNat ((BitVec.ofInt Zb r8_.1) &&& (BitVec.ofInt Zb (wrap .u64 (k.2.2 - 1)))))))))) < length (set v.2.1.1 (toNat v.1) (getD v.2.1.1 (toNat (wrap .i64 (k.1 + (wrap .i64 (wrap .u64 (BitVec.toNat ((BitVec.ofInt Zb r8_.1) &&& (BitVec.ofInt Zb (wrap .u64 (k.2.2 - 1)))))))))) 0)))) <|
 .l (.inl ((wrap .i64 (v.1 + 1)), (((set (set v.2.1.1 (toNat v.1) (getD v.2.1.1 (toNat (wrap .i64 (k.1 + (wrap .i64 (wrap .u64 (BitVec.toNat ((BitVec.ofInt Zb r8_.1) &&& (BitVec.ofInt Zb (wrap .u64 (k.2.2 - 1)))))))))) 0)) (toNat (wrap .i64 (k.1 + (wrap .i64 (wrap .u64 (BitVec.toNat ((BitVec.ofInt Zb r8_.1) &&& (BitVec.ofInt Zb (wrap .u64 (k.2.2 - 1)))))))))) (getD v.2.1.1 (toNat v.1) 0)), v.2.1.2), r8_.2)))))
 (.l (.inr v.2.1))
noncomputable def wvj (k : Int × Yq) (v : Int × (Yc × Int)) : Option Yc := iter (fun v => (wio k v).ev) v
noncomputable def wey : LD := ⟨{ acts := [], S := { slots := [0, 1, 8, 9, 10, 11], sh := (yj [.arr 64, .dat yi, .dat yi, .box 9 0, .dat (.int .u64), .dat yi]), obs := [Zp, (9, .cells Zah)] } }, [(0, { acts := [], S := { slots := [0], sh := (yj [.arr 64]), obs := [Zp] } })], (yh [] .nil), Int × Yq, Int × (Yc × Int), (List Nat) × Y2, fun k v => (((), (k.1, (k.2.1, ((), (k.2.2, (v.1, ())))))), (v.2.1, ((v.2.2, ()), ()))), fun t => (t.1.2.1, (t.1.2.2.1, t.1.2.2.2.2.1)), fun t => (t.1.2.2.2.2.2.1, (t.2.1, t.2.2.1.1)), wio, fun _ r => .l (.exit 0 (mkSt ({ slots := [0], sh := (yj [.arr 64]), obs := [Zp] }) (((), ()), (r, ()))))⟩
noncomputable def wacd (a2_ : Int) (a3_ : Int) (_a4_ : Yf) (a1_ : (List Nat) × Y2) : Tr Yc :=
 .t (decide ((8 : Int) ≤ (wrap .i64 (a3_ - a2_))))
 (.c (Int) (waca (wrap .i64 (a3_ - a2_))) fun r1_ =>
 .g (!decide ((4 : Int) = 0)) <|
 .c Yc (wvj (a2_, ((wrap .i64 (a3_ - a2_)), r1_)) ((wrap .i64 ((wrap .i64 (a2_ + (wrap .i64 ((wrap .i64 (Int.tdiv (wrap .i64 (a3_ - a2_)) (4 : Int))) * (2 : Int))))) - 1)), (a1_, (wrap .u64 (wrap .i64 (a3_ - a2_)))))) fun r10_ =>
 .l r10_)
 (.l a1_)
noncomputable def wace (a2_ : Int) (a3_ : Int) (a4_ : Yf) (a1_ : (List Nat) × Y2) : Option Yc := (wacd a2_ a3_ a4_ a1_).ev
noncomputable def waln : RetK := { acts := [], res := [], sh := .nil, obs := [Zp], pins := [(0, 0, 64)] }
noncomputable def wvk : FD := yd (yj [.arr 64, .dat yi, .dat yi, .clo [y1, y1] yi]) [Zp] [.arg 0] Yc (fun x => wace x.1.2.1 x.1.2.2.1 x.1.2.2.2.1 x.2.1) (fun r => ([], [(64, .perm false 24 3 yi r.1 r.2)]))
noncomputable def wvl : Env := envOf [(270, wvh), (271, wvi)]
noncomputable def wvm : List (Nat × LD) := [(0, wey)]
noncomputable def wvn : Code := (f253.body).getD .skip
noncomputable def wacf (a1_ : List Y1) (a2_ : Int) (a3_ : Int) (a5_ : Yf) (a4_ : Int) : Tr (Int × Yq) :=
 .g (inR a3_ (length a1_)) <|
 .g (inR a2_ (length a1_)) <|
 .c (Int) (a5_ ((getD a1_ (toNat a3_) ([] : Y1)), ((getD a1_ (toNat a2_) ([] : Y1)), ()))) fun r1_ =>
 .t (decide (r1_ < 0))
 (.l (a3_, (a2_, (wrap .i64 (a4_ + 1)))))
 (.l (a2_, (a3_, a4_)))
noncomputable def wmc (a1_ : List Y1) (a2_ : Int) (a3_ : Int) (a5_ : Yf) (a4_ : Int) : Option (Int × Yq) := (wacf a1_ a2_ a3_ a5_ a4_).ev
noncomputable def walo : RetK := { acts := [], res := [.tmp 10, .tmp 11], sh := (yj [.dat yi, .dat yi]), obs := [(64, .cells Zg)], pins := [(3, 0, 64)] }
noncomputable def wvo : FD := yd (yj [.dat y2, .dat yi, .dat yi, .box 64 0, .clo [y1, y1] yi]) [(64, .cells Zg)] [.arg 3] (Int × Yq) (fun x => wmc x.1.1 x.1.2.1 x.1.2.2.1 x.1.2.2.2.2.1 x.2.1.1) (fun r => ([.dat yi r.1, .dat yi r.2.1], [(64, .cells [.dat yi r.2.2])]))
noncomputable def wacg (a1_ : List Y1) (a2_ : Int) (a3_ : Int) (a4_ : Int) (a6_ : Yf) (a5_ : Int) : Tr Yq :=
 .c (Int × Yq) (wmc a1_ a2_ a3_ a6_ a5_) fun r1_ =>
 .c (Int × Yq) (wmc a1_ r1_.2.1 a4_ a6_ r1_.2.2) fun r2_ =>
 .c (Int × Yq) (wmc a1_ r1_.1 r2_.1 a6_ r2_.2.2) fun r3_ =>
 .l (r3_.2.1, r3_.2.2)
noncomputable def wmd (a1_ : List Y1) (a2_ : Int) (a3_ : Int) (a4_ : Int) (a6_ : Yf) (a5_ : Int) : Option Yq := (wacg a1_ a2_ a3_ a4_ a6_ a5_).ev
noncomputable def walp : RetK := { acts := [], res := [.tmp 12], sh := Zg, obs := [(64, .cells Zg)], pins := [(4, 0, 64)] }
noncomputable def wme : FD := yd (yj [.dat y2, .dat yi, .dat yi, .dat yi, .box 64 0, .clo [y1, y1] yi]) [(64, .cells Zg)] [.arg 4] (Int × (Int)) (fun x => wmd x.1.1 x.1.2.1 x.1.2.2.1 x.1.2.2.2.1 x.1.2.2.2.2.2.1 x.2.1.1) (fun r => ([.dat yi r.1], [(64, .cells [.dat yi r.2])]))
noncomputable def wach (a1_ : List Y1) (a2_ : Int) (a4_ : Yf) (a3_ : Int) : Tr Yq :=
 .c Yq (wmd a1_ (wrap .i64 (a2_ - 1)) a2_ (wrap .i64 (a2_ + 1)) a4_ a3_) fun r1_ =>
 .l (r1_.1, r1_.2)
noncomputable def wmf (a1_ : List Y1) (a2_ : Int) (a4_ : Yf) (a3_ : Int) : Option Yq := (wach a1_ a2_ a4_ a3_).ev
noncomputable def walq : RetK := { acts := [], res := [.tmp 8], sh := Zg, obs := [(64, .cells Zg)], pins := [(2, 0, 64)] }
noncomputable def wvp : FD := yd (yj [.dat y2, .dat yi, .box 64 0, .clo [y1, y1] yi]) [(64, .cells Zg)] [.arg 2] (Int × (Int)) (fun x => wmf x.1.1 x.1.2.1 x.1.2.2.2.1 x.2.1.1) (fun r => ([.dat yi r.1], [(64, .cells [.dat yi r.2])]))
noncomputable def waci (a1_ : List Y1) (a2_ : Int) (a3_ : Int) (a4_ : Yf) : Tr Yq :=
 .g (!decide ((4 : Int) = 0)) <|
 .g (!decide ((4 : Int) = 0)) <|
 .g (!decide ((4 : Int) = 0)) <|
 .t (decide ((8 : Int) ≤ (wrap .i64 (a3_ - a2_))))
 (.t (decide ((50 : Int) ≤ (wrap .i64 (a3_ - a2_))))
 (.c Yq (wmf a1_ (wrap .i64 (a2_ + (wrap .i64 ((wrap .i64 (Int.tdiv (wrap .i64 (a3_ - a2_)) (4 : Int))) * (1 : Int))))) a4_ (0 : Int)) fun r1_ =>
 .c Yq (wmf a1_ (wrap .i64 (a2_ + (wrap .i64 ((wrap .i64 (Int.tdiv (wrap .i64 (a3_ - a2_)) (4 : Int))) * (2 : Int))))) a4_ r1_.2) fun r2_ =>
 .c Yq (wmf a1_ (wrap .i64 (a2_ + (wrap .i64 ((wrap .i64 (Int.tdiv (wrap .i64 (a3_ - a2_)) (4 : Int))) * (3 : Int))))) a4_ r2_.2) fun r3_ =>
 .c Yq (wmd a1_ r1_.1 r2_.1 r3_.1 a4_ r3_.2) fun r4_ =>
 .t (r4_.2 == 0)
 (.l (r4_.1, (1 : Int)))
 (.t (r4_.2 == 12)
 (.l (r4_.1, (2 : Int)))
 (.l (r4_.1, (0 : Int)))))
 (.c Yq (wmd a1_ (wrap .i64 (a2_ + (wrap .i64 ((wrap .i64 (Int.tdiv (wrap .i64 (a3_ - a2_)) (4 : Int))) * (1 : Int))))) (wrap .i64 (a2_ + (wrap .i64 ((wrap .i64 (Int.tdiv (wrap .i64 (a3_ - a2_)) (4 : Int))) * (2 : Int))))) (wrap .i64 (a2_ + (wrap .i64 ((wrap .i64 (Int.tdiv (wrap .i64 (a3_ - a2_)) (4 : Int))) * (3 : Int))))) a4_ (0 : Int)) fun r5_ =>
 .t (r5_.2 == 0)
 (.l (r5_.1, (1 : Int)))
 (.t (r5_.2 == 12)
 (.l (r5_.1, (2 : Int)))
 (.l (r5_.1, (0 : Int))))))
 (.t ((0 : Int) == (0 : Int))
 (.l ((wrap .i64 (a2_ + (wrap .i64 ((wrap .i64 (Int.tdiv (wrap .i64 (a3_ - a2_)) (4 : Int))) * (2 : Int))))), (1 : Int)))
 (.t ((0 : Int) == (12 : Int))
 (.l ((wrap .i64 (a2_ + (wrap .i64 ((wrap .i64 (Int.tdiv (wrap .i64 (a3_ - a2_)) (4 : Int))) * (2 : Int))))), (2 : Int)))
 (.l ((wrap .i64 (a2_ + (wrap .i64 ((wrap .i64 (Int.tdiv (wrap .i64 (a3_ - a2_)) (4 : Int))) * (2 : Int))))), (0 : Int)))))
noncomputable def wvq (a1_ : List Y1) (a2_ : Int) (a3_ : Int) (a4_ : Yf) : Option Yq := (waci a1_ a2_ a3_ a4_).ev
noncomputable def walr : RetK := yr [.tmp 8, .tmp 9] (yj [.dat yi, .dat yi])
noncomputable def wvr : FD := yd (yj [.dat y2, .dat yi, .dat yi, .clo [y1, y1] yi]) [] [] (Int × (Int)) (fun x => wvq x.1.1 x.1.2.1 x.1.2.2.1 x.1.2.2.2.1) (fun r => ([.dat yi r.1, .dat yi r.2], []))
noncomputable def wip (k : Int × Yai) (v : Int) : Tr ((Int) ⊕ (Int)) :=
 .t (decide (v ≤ k.2.2.1))
 (.g (inR v (length k.2.2.2.1)) <|
 .g (decide ((toNat v) < length k.2.2.2.1) && decide ((getD k.2.2.2.1 (toNat v) 0) < length k.2.2.2.2)) <|
 .g (inR k.1 (length k.2.2.2.1)) <|
 .g (decide ((toNat k.1) < length k.2.2.2.1) && decide ((getD k.2.2.2.1 (toNat k.1) 0) < length k.2.2.2.2)) <|
 .c (Int) (k.2.1 ((getD k.2.2.2.2 (getD k.2.2.2.1 (toNat v) 0) ([] : Y1)), ((getD k.2.2.2.2 (getD k.2.2.2.1 (toNat k.1) 0) ([] : Y1)), ()))) fun r6_ =>
 .t (decide (r6_ < 0))
 (.l (.inl (wrap .i64 (v + 1))))
 (.l (.inr v)))
 (.l (.inr v))
noncomputable def wvs (k : Int × Yai) (v : Int) : Option (Int) := iter (fun v => (wip k v).ev) v
noncomputable def wez : LD := ⟨{ acts := [], S := { slots := [0, 1, 4, 12, 13], sh := Zo, obs := [Zp] } }, [(0, { acts := [], S := { slots := [0, 1, 4, 12, 13], sh := Zo, obs := [Zp] } })], (yh [] .nil), Int × Yai, Int, Int, fun k v => (((), (k.1, (k.2.1, (v, (k.2.2.1, ()))))), (k.2.2.2, ())), fun t => (t.1.2.1, (t.1.2.2.1, (t.1.2.2.2.2.1, t.2.1))), fun t => t.1.2.2.2.1, wip, fun k r => .l (.exit 0 (mkSt ({ slots := [0, 1, 4, 12, 13], sh := Zo, obs := [Zp] }) (((), (k.1, (k.2.1, (r, (k.2.2.1, ()))))), (k.2.2.2, ()))))⟩
noncomputable def wiq (k : Int × Yai) (v : Int) : Tr ((Int) ⊕ (Int)) :=
 .t (decide (k.2.2.1 ≤ v))
 (.g (inR v (length k.2.2.2.1)) <|
 .g (decide ((toNat v) < length k.2.2.2.1) && decide ((getD k.2.2.2.1 (toNat v) 0) < length k.2.2.2.2)) <|
 .g (inR k.1 (length k.2.2.2.1)) <|
 .g (decide ((toNat k.1) < length k.2.2.2.1) && decide ((getD k.2.2.2.1 (toNat k.1) 0) < length k.2.2.2.2)) <|
 .c (Int) (k.2.1 ((getD k.2.2.2.2 (getD k.2.2.2.1 (toNat v) 0) ([] : Y1)), ((getD k.2.2.2.2 (getD k.2.2.2.1 (toNat k.1) 0) ([] : Y1)), ()))) fun r18_ =>
 .t (!(decide (r18_ < 0)))
 (.l (.inl (wrap .i64 (v - 1))))
 (.l (.inr v)))
 (.l (.inr v))
noncomputable def wvt (k : Int × Yai) (v : Int) : Option (Int) := iter (fun v => (wiq k v).ev) v
noncomputable def wfa : LD := ⟨{ acts := [], S := { slots := [0, 1, 4, 12, 13], sh := Zo, obs := [Zp] } }, [(2, { acts := [], S := { slots := [0, 1, 4, 12, 13], sh := Zo, obs := [Zp] } })], (yh [] .nil), Int × Yai, Int, Int, fun k v => (((), (k.1, (k.2.1, (k.2.2.1, (v, ()))))), (k.2.2.2, ())), fun t => (t.1.2.1, (t.1.2.2.1, (t.1.2.2.2.1, t.2.1))), fun t => t.1.2.2.2.2.1, wiq, fun k r => .l (.exit 2 (mkSt ({ slots := [0, 1, 4, 12, 13], sh := Zo, obs := [Zp] }) (((), (k.1, (k.2.1, (k.2.2.1, (r, ()))))), (k.2.2.2, ()))))⟩
noncomputable def wir (k : Int × Yai) (v : Int) : Tr ((Int) ⊕ (Int)) :=
 .t (decide (v ≤ k.2.2.1))
 (.g (inR v (length k.2.2.2.1)) <|
 .g (decide ((toNat v) < length k.2.2.2.1) && decide ((getD k.2.2.2.1 (toNat v) 0) < length k.2.2.2.2)) <|
 .g (inR k.1 (length k.2.2.2.1)) <|
 .g (decide ((toNat k.1) < length k.2.2.2.1) && decide ((getD k.2.2.2.1 (toNat k.1) 0) < length k.2.2.2.2)) <|
 .c (Int) (k.2.1 ((getD k.2.2.2.2 (getD k.2.2.2.1 (toNat v) 0) ([] : Y1)), ((getD k.2.2.2.2 (getD k.2.2.2.1 (toNat k.1) 0) ([] : Y1)), ()))) fun r35_ =>
 .t (decide (r35_ < 0))
 (.l (.inl (wrap .i64 (v + 1))))
 (.l (.inr v)))
 (.l (.inr v))
noncomputable def wvu (k : Int × Yai) (v : Int) : Option (Int) := iter (fun v => (wir k v).ev) v
noncomputable def wfb : LD := ⟨{ acts := [], S := { slots := [0, 1, 4, 12, 13], sh := Zo, obs := [Zp] } }, [(6, { acts := [], S := { slots := [0, 1, 4, 12, 13], sh := Zo, obs := [Zp] } })], (yh [] .nil), Int × Yai, Int, Int, fun k v => (((), (k.1, (k.2.1, (v, (k.2.2.1, ()))))), (k.2.2.2, ())), fun t => (t.1.2.1, (t.1.2.2.1, (t.1.2.2.2.2.1, t.2.1))), fun t => t.1.2.2.2.1, wir, fun k r => .l (.exit 6 (mkSt ({ slots := [0, 1, 4, 12, 13], sh := Zo, obs := [Zp] }) (((), (k.1, (k.2.1, (r, (k.2.2.1, ()))))), (k.2.2.2, ()))))⟩
noncomputable def wis (k : Int × Yai) (v : Int) : Tr ((Int) ⊕ (Int)) :=
 .t (decide (k.2.2.1 ≤ v))
 (.g (inR v (length k.2.2.2.1)) <|
 .g (decide ((toNat v) < length k.2.2.2.1) && decide ((getD k.2.2.2.1 (toNat v) 0) < length k.2.2.2.2)) <|
 .g (inR k.1 (length k.2.2.2.1)) <|
 .g (decide ((toNat k.1) < length k.2.2.2.1) && decide ((getD k.2.2.2.1 (toNat k.1) 0) < length k.2.2.2.2)) <|
 .c (Int) (k.2.1 ((getD k.2.2.2.2 (getD k.2.2.2.1 (toNat v) 0) ([] : Y1)), ((getD k.2.2.2.2 (getD k.2.2.2.1 (toNat k.1) 0) ([] : Y1)), ()))) fun r47_ =>
 .t (!(decide (r47_ < 0)))
 (.l (.inl (wrap .i64 (v - 1))))
 (.l (.inr v)))
 (.l (.inr v))
noncomputable def wvv (k : Int × Yai) (v : Int) : Option (Int) := iter (fun v => (wis k v).ev) v
noncomputable def wfc : LD := ⟨{ acts := [], S := { slots := [0, 1, 4, 12, 13], sh := Zo, obs := [Zp] } }, [(8, { acts := [], S := { slots := [0, 1, 4, 12, 13], sh := Zo, obs := [Zp] } })], (yh [] .nil), Int × Yai, Int, Int, fun k v => (((), (k.1, (k.2.1, (k.2.2.1, (v, ()))))), (k.2.2.2, ())), fun t => (t.1.2.1, (t.1.2.2.1, (t.1.2.2.2.1, t.2.1))), fun t => t.1.2.2.2.2.1, wis, fun k r => .l (.exit 8 (mkSt ({ slots := [0, 1, 4, 12, 13], sh := Zo, obs := [Zp] }) (((), (k.1, (k.2.1, (k.2.2.1, (r, ()))))), (k.2.2.2, ()))))⟩
noncomputable def wiu (k : Int × (Yf)) (v : Int × (Int × Yc)) : Tr ((Int × (Int × Yc)) ⊕ (Int × Yc)) :=
 .c (Int) (wvu (k.1, (k.2, (v.2.1, v.2.2))) v.1) fun r41_ =>
 .c (Int) (wvv (k.1, (k.2, (r41_, v.2.2))) v.2.1) fun r53_ =>
 .t (decide (r53_ < r41_))
 (.l (.inr (r53_, v.2.2)))
 (.g (inR r53_ (length v.2.2.1)) <|
 .g (decide ((toNat r53_) < length v.2.2.1) && decide ((getD v.2.2.1 (toNat r53_) 0) < length v.2.2.2)) <|
 .g (inR r41_ (length v.2.2.1)) <|
 .g (decide ((toNat r41_) < length v.2.2.1) && decide ((getD v.2.2.1 (toNat r41_) 0) < length v.2.2.2)) <|
 .g (inR r41_ (length v.2.2.1)) <|
 .g (decide ((toNat r41_) < length v.2.2.1)) <|
 .g (inR r53_ (length (set v.2.2.1 (toNat r41_) (getD v.2.2.1 (toNat r53_) 0)))) <|
 .g (decide ((toNat r53_) < length (set v.2.2.1 (toNat r41_) (getD v.2.2.1 (toNat r53_) 0)))) <|
 .l (.inl ((wrap .i64 (r41_ + 1)), ((wrap .i64 (r53_ - 1)), ((set (set v.2.2.1 (toNat r41_) (getD v.2.2.1 (toNat r53_) 0)) (toNat r53_) (getD v.2.2.1 (toNat r41_) 0)), v.2.2.2)))))
noncomputable def wvw (k : Int × (Yf)) (v : Int × (Int × Yc)) : Option (Int × Yc) := iter (fun v => (wiu k v).ev) v
noncomputable def wfd : LD := ⟨{ acts := [], S := { slots := [0, 1, 4, 12, 13], sh := Zo, obs := [Zp] } }, [(4, { acts := [], S := { slots := [0, 1, 13], sh := (yj [.arr 64, .dat yi, .dat yi]), obs := [Zp] } })], (yh [] .nil), Int × (Yf), Int × (Int × Yc), Int × Yc, fun k v => (((), (k.1, (k.2, (v.1, (v.2.1, ()))))), (v.2.2, ())), fun t => (t.1.2.1, t.1.2.2.1), fun t => (t.1.2.2.2.1, (t.1.2.2.2.2.1, t.2.1)), wiu, fun k r => .l (.exit 4 (mkSt ({ slots := [0, 1, 13], sh := (yj [.arr 64, .dat yi, .dat yi]), obs := [Zp] }) (((), (k.1, (r.1, ()))), (r.2, ()))))⟩
noncomputable def wacj (a2_ : Int) (a3_ : Int) (a4_ : Int) (a5_ : Yf) (a1_ : (List Nat) × Y2) : Tr Yad :=
 .g (inR a4_ (length a1_.1)) <|
 .g (decide ((toNat a4_) < length a1_.1) && decide ((getD a1_.1 (toNat a4_) 0) < length a1_.2)) <|
 .g (inR a2_ (length a1_.1)) <|
 .g (decide ((toNat a2_) < length a1_.1) && decide ((getD a1_.1 (toNat a2_) 0) < length a1_.2)) <|
 .g (inR a2_ (length a1_.1)) <|
 .g (decide ((toNat a2_) < length a1_.1)) <|
 .g (inR a4_ (length (set a1_.1 (toNat a2_) (getD a1_.1 (toNat a4_) 0)))) <|
 .g (decide ((toNat a4_) < length (set a1_.1 (toNat a2_) (getD a1_.1 (toNat a4_) 0)))) <|
 .c (Int) (wvs (a2_, (a5_, ((wrap .i64 (a3_ - 1)), ((set (set a1_.1 (toNat a2_) (getD a1_.1 (toNat a4_) 0)) (toNat a4_) (getD a1_.1 (toNat a2_) 0)), a1_.2)))) (wrap .i64 (a2_ + 1))) fun r12_ =>
 .c (Int) (wvt (a2_, (a5_, (r12_, ((set (set a1_.1 (toNat a2_) (getD a1_.1 (toNat a4_) 0)) (toNat a4_) (getD a1_.1 (toNat a2_) 0)), a1_.2)))) (wrap .i64 (a3_ - 1))) fun r24_ =>
 .t (decide (r24_ < r12_))
 (.g (inR a2_ (length (set (set a1_.1 (toNat a2_) (getD a1_.1 (toNat a4_) 0)) (toNat a4_) (getD a1_.1 (toNat a2_) 0)))) <|
 .g (decide ((toNat a2_) < length (set (set a1_.1 (toNat a2_) (getD a1_.1 (toNat a4_) 0)) (toNat a4_) (getD a1_.1 (toNat a2_) 0))) && decide ((getD (set (set a1_.1 (toNat a2_) (getD a1_.1 (toNat a4_) 0)) (toNat a4_) (getD a1_.1 (toNat a2_) 0)) (toNat a2_) 0) < length a1_.2)) <|
 .g (inR r24_ (length (set (set a1_.1 (toNat a2_) (getD a1_.1 (toNat a4_) 0)) (toNat a4_) (getD a1_.1 (toNat a2_) 0)))) <|
 .g (decide ((toNat r24_) < length (set (set a1_.1 (toNat a2_) (getD a1_.1 (toNat a4_) 0)) (toNat a4_) (getD a1_.1 (toNat a2_) 0))) && decide ((getD (set (set a1_.1 (toNat a2_) (getD a1_.1 (toNat a4_) 0)) (toNat a4_) (getD a1_.1 (toNat a2_) 0)) (toNat r24_) 0) < length a1_.2)) <|
 .g (inR r24_ (length (set (set a1_.1 (toNat a2_) (getD a1_.1 (toNat a4_) 0)) (toNat a4_) (getD a1_.1 (toNat a2_) 0)))) <|
 .g (decide ((toNat r24_) < length (set (set a1_.1 (toNat a2_) (getD a1_.1 (toNat a4_) 0)) (toNat a4_) (getD a1_.1 (toNat a2_) 0)))) <|
 .g (inR a2_ (length (set (set (set a1_.1 (toNat a2_) (getD a1_.1 (toNat a4_) 0)) (toNat a4_) (getD a1_.1 (toNat a2_) 0)) (toNat r24_) (getD (set (set a1_.1 (toNat a2_) (getD a1_.1 (toNat a4_) 0)) (toNat a4_) (getD a1_.1 (toNat a2_) 0)) (toNat a2_) 0)))) <|
 .g (decide ((toNat a2_) < length (set (set (set a1_.1 (toNat a2_) (getD a1_.1 (toNat a4_) 0)) (toNat a4_) (getD a1_.1 (toNat a2_) 0)) (toNat r24_) (getD (set (set a1_.1 (toNat a2_) (getD a1_.1 (toNat a4_) 0)) (toNat a4_) (getD a1_.1 (toNat a2_) 0)) (toNat a2_) 0)))) <|
 .l (r24_, (true, ((set (set (set (set a1_.1 (toNat a2_) (getD a1_.1 (toNat a4_) 0)) (toNat a4_) (getD a1_.1 (toNat a2_) 0)) (toNat r24_) (getD (set (set a1_.1 (toNat a2_) (getD a1_.1 (toNat a4_) 0)) (toNat a4_) (getD a1_.1 (toNat a2_) 0)) (toNat a2_) 0)) (toNat a2_) (getD (set (set a1_.1 (toNat a2_) (getD a1_.1 (toNat a4_) 0)) (toNat a4_) (getD a1_.1 (toNat a2_) 0)) (toNat r24_) 0)), a1_.2))))
 (.g (inR r24_ (length (set (set a1_.1 (toNat a2_) (getD a1_.1 (toNat a4_) 0)) (toNat a4_) (getD a1_.1 (toNat a2_) 0)))) <|
 .g (decide ((toNat r24_) < length (set (set a1_.1 (toNat a2_) (getD a1_.1 (toNat a4_) 0)) (toNat a4_) (getD a1_.1 (toNat a2_) 0))) && decide ((getD (set (set a1_.1 (toNat a2_) (getD a1_.1 (toNat a4_) 0)) (toNat a4_) (getD a1_.1 (toNat a2_) 0)) (toNat r24_) 0) < length a1_.2)) <|
 .g (inR r12_ (length (set (set a1_.1 (toNat a2_) (getD a1_.1 (toNat a4_) 0)) (toNat a4_) (getD a1_.1 (toNat a2_) 0)))) <|
 .g (decide ((toNat r12_) < length (set (set a1_.1 (toNat a2_) (getD a1_.1 (toNat a4_) 0)) (toNat a4_) (getD a1_.1 (toNat a2_) 0))) && decide ((getD (set (set a1_.1 (toNat a2_) (getD a1_.1 (toNat a4_) 0)) (toNat a4_) (getD a1_.1 (toNat a2_) 0)) (toNat r12_) 0) < length a1_.2)) <|
 .g (inR r12_ (length (set (set a1_.1 (toNat a2_) (getD a1_.1 (toNat a4_) 0)) (toNat a4_) (getD a1_.1 (toNat a2_) 0)))) <|
 .g (decide ((toNat r12_) < length (set (set a1_.1 (toNat a2_) (getD a1_.1 (toNat a4_) 0)) (toNat a4_) (getD a1_.1 (toNat a2_) 0)))) <|
 .g (inR r24_ (length (set (set (set a1_.1 (toNat a2_) (getD a1_.1 (toNat a4_) 0)) (toNat a4_) (getD a1_.1 (toNat a2_) 0)) (toNat r12_) (getD (set (set a1_.1 (toNat a2_) (getD a1_.1 (toNat a4_) 0)) (toNat a4_) (getD a1_.1 (toNat a2_) 0)) (toNat r24_) 0)))) <|
 .g (decide ((toNat r24_) < length (set (set (set a1_.1 (toNat a2_) (getD a1_.1 (toNat a4_) 0)) (toNat a4_) (getD a1_.1 (toNat a2_) 0)) (toNat r12_) (getD (set (set a1_.1 (toNat a2_) (getD a1_.1 (toNat a4_) 0)) (toNat a4_) (getD a1_.1 (toNat a2_) 0)) (toNat r24_) 0)))) <|
 .c (Int × Yc) (wvw (a2_, a5_) ((wrap .i64 (r12_ + 1)), ((wrap .i64 (r24_ - 1)), ((set (set (set (set a1_.1 (toNat a2_) (getD a1_.1 (toNat a4_) 0)) (toNat a4_) (getD a1_.1 (toNat a2_) 0)) (toNat r12_) (getD (set (set a1_.1 (toNat a2_) (getD a1_.1 (toNat a4_) 0)) (toNat a4_) (getD a1_.1 (toNat a2_) 0)) (toNat r24_) 0)) (toNat r24_) (getD (set (set a1_.1 (toNat a2_) (getD a1_.1 (toNat a4_) 0)) (toNat a4_) (getD a1_.1 (toNat a2_) 0)) (toNat r12_) 0)), a1_.2)))) fun r57_ =>
 .g (inR a2_ (length r57_.2.1)) <|
 .g (decide ((toNat a2_) < length r57_.2.1) && decide ((getD r57_.2.1 (toNat a2_) 0) < length r57_.2.2)) <|
 .g (inR r57_.1 (length r57_.2.1)) <|
 .g (decide ((toNat r57_.1) < length r57_.2.1) && decide ((getD r57_.2.1 (toNat r57_.1) 0) < length r57_.2.2)) <|
 .g (inR r57_.1 (length r57_.2.1)) <|
 .g (decide ((toNat r57_.1) < length r57_.2.1)) <|
 .g (inR a2_ (length (set r57_.2.1 (toNat r57_.1) (getD r57_.2.1 (toNat a2_) 0)))) <|
 .g (decide ((toNat a2_) < length (set r57_.2.1 (toNat r57_.1) (getD r57_.2.1 (toNat a2_) 0)))) <|
 .l (r57_.1, (false, ((set (set r57_.2.1 (toNat r57_.1) (getD r57_.2.1 (toNat a2_) 0)) (toNat a2_) (getD r57_.2.1 (toNat r57_.1) 0)), r57_.2.2))))
noncomputable def wal (a2_ : Int) (a3_ : Int) (a4_ : Int) (a5_ : Yf) (a1_ : (List Nat) × Y2) : Option Yad := (wacj a2_ a3_ a4_ a5_ a1_).ev
noncomputable def wals : RetK := { acts := [], res := [.tmp 10, .tmp 11], sh := (yj [.dat yi, .dat .bool]), obs := [Zp], pins := [(0, 0, 64)] }
noncomputable def wvx : FD := yd (yj [.arr 64, .dat yi, .dat yi, .dat yi, .clo [y1, y1] yi]) [Zp] [.arg 0] Yad (fun x => wal x.1.2.1 x.1.2.2.1 x.1.2.2.2.1 x.1.2.2.2.2.1 x.2.1) (fun r => ([.dat yi r.1, .dat .bool r.2.1], [(64, .perm false 24 3 yi r.2.2.1 r.2.2.2)]))
noncomputable def wdg : Env := envOf []
noncomputable def wdh : List (Nat × LD) := [(0, wez), (2, wfa), (6, wfb), (8, wfc), (4, wfd)]
noncomputable def wdi : Code := (f258.body).getD .skip
noncomputable def wiv (rec_ : (Int) → (Int) → (Int) → (Yf) → Yc → Option Yc) (k : Yf) (v : Int × (Int × (Int × (Bool × (Bool × Yc))))) : Tr ((Int × (Int × (Int × (Bool × (Bool × Yc))))) ⊕ Yc) :=
 .t (decide ((wrap .i64 (v.2.1 - v.1)) ≤ (12 : Int)))
 (.c Yc (waby v.1 v.2.1 k v.2.2.2.2.2) fun r8_ =>
 .l (.inr r8_))
 (.t (v.2.2.1 == 0)
 (.f)
 (.t (!v.2.2.2.1)
 (.c Yc (wace v.1 v.2.1 k v.2.2.2.2.2) fun r9_ =>
 .c Yq (wvq (permL r9_.1 r9_.2) v.1 v.2.1 k) fun r10_ =>
 .t (r10_.2 == 2)
 (.f)
 (.t v.2.2.2.1
 (.t v.2.2.2.2.1
 (.t (r10_.2 == 1)
 (.f)
 (.t (decide (0 < v.1))
 (.g (inR (wrap .i64 (v.1 - 1)) (length r9_.1)) <|
 .g (decide ((toNat (wrap .i64 (v.1 - 1))) < length r9_.1) && decide ((getD r9_.1 (toNat (wrap .i64 (v.1 - 1))) 0) < length r9_.2)) <|
 .g (inR r10_.1 (length r9_.1)) <|
 .g (decide ((toNat r10_.1) < length r9_.1) && decide ((getD r9_.1 (toNat r10_.1) 0) < length r9_.2)) <|
 .c (Int) (k ((getD r9_.2 (getD r9_.1 (toNat (wrap .i64 (v.1 - 1))) 0) ([] : Y1)), ((getD r9_.2 (getD r9_.1 (toNat r10_.1) 0) ([] : Y1)), ()))) fun r11_ =>
 .t (!(decide (r11_ < 0)))
 (.f)
 (.c Yad (wal v.1 v.2.1 r10_.1 k r9_) fun r12_ =>
 .g (!decide ((8 : Int) = 0)) <|
 .t (decide ((wrap .i64 (r12_.1 - v.1)) < (wrap .i64 (v.2.1 - r12_.1))))
 (.c Yc (rec_ v.1 r12_.1 (wrap .i64 (v.2.2.1 - 1)) k r12_.2.2) fun r13_ =>
 .l (.inl ((wrap .i64 (r12_.1 + 1)), (v.2.1, ((wrap .i64 (v.2.2.1 - 1)), ((decide ((wrap .i64 (Int.tdiv (wrap .i64 (v.2.1 - v.1)) (8 : Int))) ≤ (wrap .i64 (r12_.1 - v.1)))), (r12_.2.1, r13_)))))))
 (.c Yc (rec_ (wrap .i64 (r12_.1 + 1)) v.2.1 (wrap .i64 (v.2.2.1 - 1)) k r12_.2.2) fun r14_ =>
 .l (.inl (v.1, (r12_.1, ((wrap .i64 (v.2.2.1 - 1)), ((decide ((wrap .i64 (Int.tdiv (wrap .i64 (v.2.1 - v.1)) (8 : Int))) ≤ (wrap .i64 (v.2.1 - r12_.1)))), (r12_.2.1, r14_)))))))))
 (.c Yad (wal v.1 v.2.1 r10_.1 k r9_) fun r15_ =>
 .g (!decide ((8 : Int) = 0)) <|
 .t (decide ((wrap .i64 (r15_.1 - v.1)) < (wrap .i64 (v.2.1 - r15_.1))))
 (.c Yc (rec_ v.1 r15_.1 (wrap .i64 (v.2.2.1 - 1)) k r15_.2.2) fun r16_ =>
 .l (.inl ((wrap .i64 (r15_.1 + 1)), (v.2.1, ((wrap .i64 (v.2.2.1 - 1)), ((decide ((wrap .i64 (Int.tdiv (wrap .i64 (v.2.1 - v.1)) (8 : Int))) ≤ (wrap .i64 (r15_.1 - v.1)))), (r15_.2.1, r16_)))))))
 (.c Yc (rec_ (wrap .i64 (r15_.1 + 1)) v.2.1 (wrap .i64 (v.2.2.1 - 1)) k r15_.2.2) fun r17_ =>
 .l (.inl (v.1, (r15_.1, ((wrap .i64 (v.2.2.1 - 1)), ((decide ((wrap .i64 (Int.tdiv (wrap .i64 (v.2.1 - v.1)) (8 : Int))) ≤ (wrap .i64 (v.2.1 - r15_.1)))), (r15_.2.1, r17_))))))))))
 (.t (decide (0 < v.1))
 (.g (inR (wrap .i64 (v.1 - 1)) (length r9_.1)) <|
 .g (decide ((toNat (wrap .i64 (v.1 - 1))) < length r9_.1) && decide ((getD r9_.1 (toNat (wrap .i64 (v.1 - 1))) 0) < length r9_.2)) <|
 .g (inR r10_.1 (length r9_.1)) <|
 .g (decide ((toNat r10_.1) < length r9_.1) && decide ((getD r9_.1 (toNat r10_.1) 0) < length r9_.2)) <|
 .c (Int) (k ((getD r9_.2 (getD r9_.1 (toNat (wrap .i64 (v.1 - 1))) 0) ([] : Y1)), ((getD r9_.2 (getD r9_.1 (toNat r10_.1) 0) ([] : Y1)), ()))) fun r18_ =>
 .t (!(decide (r18_ < 0)))
 (.f)
 (.c Yad (wal v.1 v.2.1 r10_.1 k r9_) fun r19_ =>
 .g (!decide ((8 : Int) = 0)) <|
 .t (decide ((wrap .i64 (r19_.1 - v.1)) < (wrap .i64 (v.2.1 - r19_.1))))
 (.c Yc (rec_ v.1 r19_.1 (wrap .i64 (v.2.2.1 - 1)) k r19_.2.2) fun r20_ =>
 .l (.inl ((wrap .i64 (r19_.1 + 1)), (v.2.1, ((wrap .i64 (v.2.2.1 - 1)), ((decide ((wrap .i64 (Int.tdiv (wrap .i64 (v.2.1 - v.1)) (8 : Int))) ≤ (wrap .i64 (r19_.1 - v.1)))), (r19_.2.1, r20_)))))))
 (.c Yc (rec_ (wrap .i64 (r19_.1 + 1)) v.2.1 (wrap .i64 (v.2.2.1 - 1)) k r19_.2.2) fun r21_ =>
 .l (.inl (v.1, (r19_.1, ((wrap .i64 (v.2.2.1 - 1)), ((decide ((wrap .i64 (Int.tdiv (wrap .i64 (v.2.1 - v.1)) (8 : Int))) ≤ (wrap .i64 (v.2.1 - r19_.1)))), (r19_.2.1, r21_)))))))))
 (.c Yad (wal v.1 v.2.1 r10_.1 k r9_) fun r22_ =>
 .g (!decide ((8 : Int) = 0)) <|
 .t (decide ((wrap .i64 (r22_.1 - v.1)) < (wrap .i64 (v.2.1 - r22_.1))))
 (.c Yc (rec_ v.1 r22_.1 (wrap .i64 (v.2.2.1 - 1)) k r22_.2.2) fun r23_ =>
 .l (.inl ((wrap .i64 (r22_.1 + 1)), (v.2.1, ((wrap .i64 (v.2.2.1 - 1)), ((decide ((wrap .i64 (Int.tdiv (wrap .i64 (v.2.1 - v.1)) (8 : Int))) ≤ (wrap .i64 (r22_.1 - v.1)))), (r22_.2.1, r23_)))))))
 (.c Yc (rec_ (wrap .i64 (r22_.1 + 1)) v.2.1 (wrap .i64 (v.2.2.1 - 1)) k r22_.2.2) fun r24_ =>
 .l (.inl (v.1, (r22_.1, ((wrap .i64 (v.2.2.1 - 1)), ((decide ((wrap .i64 (Int.tdiv (wrap .i64 (v.2.1 - v.1)) (8 : Int))) ≤ (wrap .i64 (v.2.1 - r22_.1)))), (r22_.2.1, r24_))))))))))
 (.t (decide (0 < v.1))
 (.g (inR (wrap .i64 (v.1 - 1)) (length r9_.1)) <|
 .g (decide ((toNat (wrap .i64 (v.1 - 1))) < length r9_.1) && decide ((getD r9_.1 (toNat (wrap .i64 (v.1 - 1))) 0) < length r9_.2)) <|
 .g (inR r10_.1 (length r9_.1)) <|
 .g (decide ((toNat r10_.1) < length r9_.1) && decide ((getD r9_.1 (toNat r10_.1) 0) < length r9_.2)) <|
 .c (Int) (k ((getD r9_.2 (getD r9_.1 (toNat (wrap .i64 (v.1 - 1))) 0) ([] : Y1)), ((getD r9_.2 (getD r9_.1 (toNat r10_.1) 0) ([] : Y1)), ()))) fun r25_ =>
 .t (!(decide (r25_ < 0)))
 (.f)
 (.c Yad (wal v.1 v.2.1 r10_.1 k r9_) fun r26_ =>
 .g (!decide ((8 : Int) = 0)) <|
 .t (decide ((wrap .i64 (r26_.1 - v.1)) < (wrap .i64 (v.2.1 - r26_.1))))
 (.c Yc (rec_ v.1 r26_.1 (wrap .i64 (v.2.2.1 - 1)) k r26_.2.2) fun r27_ =>
 .l (.inl ((wrap .i64 (r26_.1 + 1)), (v.2.1, ((wrap .i64 (v.2.2.1 - 1)), ((decide ((wrap .i64 (Int.tdiv (wrap .i64 (v.2.1 - v.1)) (8 : Int))) ≤ (wrap .i64 (r26_.1 - v.1)))), (r26_.2.1, r27_)))))))
 (.c Yc (rec_ (wrap .i64 (r26_.1 + 1)) v.2.1 (wrap .i64 (v.2.2.1 - 1)) k r26_.2.2) fun r28_ =>
 .l (.inl (v.1, (r26_.1, ((wrap .i64 (v.2.2.1 - 1)), ((decide ((wrap .i64 (Int.tdiv (wrap .i64 (v.2.1 - v.1)) (8 : Int))) ≤ (wrap .i64 (v.2.1 - r26_.1)))), (r26_.2.1, r28_)))))))))
 (.c Yad (wal v.1 v.2.1 r10_.1 k r9_) fun r29_ =>
 .g (!decide ((8 : Int) = 0)) <|
 .t (decide ((wrap .i64 (r29_.1 - v.1)) < (wrap .i64 (v.2.1 - r29_.1))))
 (.c Yc (rec_ v.1 r29_.1 (wrap .i64 (v.2.2.1 - 1)) k r29_.2.2) fun r30_ =>
 .l (.inl ((wrap .i64 (r29_.1 + 1)), (v.2.1, ((wrap .i64 (v.2.2.1 - 1)), ((decide ((wrap .i64 (Int.tdiv (wrap .i64 (v.2.1 - v.1)) (8 : Int))) ≤ (wrap .i64 (r29_.1 - v.1)))), (r29_.2.1, r30_)))))))
 (.c Yc (rec_ (wrap .i64 (r29_.1 + 1)) v.2.1 (wrap .i64 (v.2.2.1 - 1)) k r29_.2.2) fun r31_ =>
 .l (.inl (v.1, (r29_.1, ((wrap .i64 (v.2.2.1 - 1)), ((decide ((wrap .i64 (Int.tdiv (wrap .i64 (v.2.1 - v.1)) (8 : Int))) ≤ (wrap .i64 (v.2.1 - r29_.1)))), (r29_.2.1, r31_)))))))))))
 (.c Yq (wvq (permL v.2.2.2.2.2.1 v.2.2.2.2.2.2) v.1 v.2.1 k) fun r32_ =>
 .t (r32_.2 == 2)
 (.f)
 (.t v.2.2.2.1
 (.t v.2.2.2.2.1
 (.t (r32_.2 == 1)
 (.f)
 (.t (decide (0 < v.1))
 (.g (inR (wrap .i64 (v.1 - 1)) (length v.2.2.2.2.2.1)) <|
 .g (decide ((toNat (wrap .i64 (v.1 - 1))) < length v.2.2.2.2.2.1) && decide ((getD v.2.2.2.2.2.1 (toNat (wrap .i64 (v.1 - 1))) 0) < length v.2.2.2.2.2.2)) <|
 .g (inR r32_.1 (length v.2.2.2.2.2.1)) <|
 .g (decide ((toNat r32_.1) < length v.2.2.2.2.2.1) && decide ((getD v.2.2.2.2.2.1 (toNat r32_.1) 0) < length v.2.2.2.2.2.2)) <|
 .c (Int) (k ((getD v.2.2.2.2.2.2 (getD v.2.2.2.2.2.1 (toNat (wrap .i64 (v.1 - 1))) 0) ([] : Y1)), ((getD v.2.2.2.2.2.2 (getD v.2.2.2.2.2.1 (toNat r32_.1) 0) ([] : Y1)), ()))) fun r33_ =>
 .t (!(decide (r33_ < 0)))
 (.f)
 (.c Yad (wal v.1 v.2.1 r32_.1 k v.2.2.2.2.2) fun r34_ =>
 .g (!decide ((8 : Int) = 0)) <|
 .t (decide ((wrap .i64 (r34_.1 - v.1)) < (wrap .i64 (v.2.1 - r34_.1))))
 (.c Yc (rec_ v.1 r34_.1 v.2.2.1 k r34_.2.2) fun r35_ =>
 .l (.inl ((wrap .i64 (r34_.1 + 1)), (v.2.1, (v.2.2.1, ((decide ((wrap .i64 (Int.tdiv (wrap .i64 (v.2.1 - v.1)) (8 : Int))) ≤ (wrap .i64 (r34_.1 - v.1)))), (r34_.2.1, r35_)))))))
 (.c Yc (rec_ (wrap .i64 (r34_.1 + 1)) v.2.1 v.2.2.1 k r34_.2.2) fun r36_ =>
 .l (.inl (v.1, (r34_.1, (v.2.2.1, ((decide ((wrap .i64 (Int.tdiv (wrap .i64 (v.2.1 - v.1)) (8 : Int))) ≤ (wrap .i64 (v.2.1 - r34_.1)))), (r34_.2.1, r36_)))))))))
 (.c Yad (wal v.1 v.2.1 r32_.1 k v.2.2.2.2.2) fun r37_ =>
 .g (!decide ((8 : Int) = 0)) <|
 .t (decide ((wrap .i64 (r37_.1 - v.1)) < (wrap .i64 (v.2.1 - r37_.1))))
 (.c Yc (rec_ v.1 r37_.1 v.2.2.1 k r37_.2.2) fun r38_ =>
 .l (.inl ((wrap .i64 (r37_.1 + 1)), (v.2.1, (v.2.2.1, ((decide ((wrap .i64 (Int.tdiv (wrap .i64 (v.2.1 - v.1)) (8 : Int))) ≤ (wrap .i64 (r37_.1 - v.1)))), (r37_.2.1, r38_)))))))
 (.c Yc (rec_ (wrap .i64 (r37_.1 + 1)) v.2.1 v.2.2.1 k r37_.2.2) fun r39_ =>
 .l (.inl (v.1, (r37_.1, (v.2.2.1, ((decide ((wrap .i64 (Int.tdiv (wrap .i64 (v.2.1 - v.1)) (8 : Int))) ≤ (wrap .i64 (v.2.1 - r37_.1)))), (r37_.2.1, r39_))))))))))
 (.t (decide (0 < v.1))
 (.g (inR (wrap .i64 (v.1 - 1)) (length v.2.2.2.2.2.1)) <|
 .g (decide ((toNat (wrap .i64 (v.1 - 1))) < length v.2.2.2.2.2.1) && decide ((getD v.2.2.2.2.2.1 (toNat (wrap .i64 (v.1 - 1))) 0) < length v.2.2.2.2.2.2)) <|
 .g (inR r32_.1 (length v.2.2.2.2.2.1)) <|
 .g (decide ((toNat r32_.1) < length v.2.2.2.2.2.1) && decide ((getD v.2.2.2.2.2.1 (toNat r32_.1) 0) < length v.2.2.2.2.2.2)) <|
 .c (Int) (k ((getD v.2.2.2.2.2.2 (getD v.2.2.2.2.2.1 (toNat (wrap .i64 (v.1 - 1))) 0) ([] : Y1)), ((getD v.2.2.2.2.2.2 (getD v.2.2.2.2.2.1 (toNat r32_.1) 0) ([] : Y1)), ()))) fun r40_ =>
 .t (!(decide (r40_ < 0)))
 (.f)
 (.c Yad (wal v.1 v.2.1 r32_.1 k v.2.2.2.2.2) fun r41_ =>
 .g (!decide ((8 : Int) = 0)) <|
 .t (decide ((wrap .i64 (r41_.1 - v.1)) < (wrap .i64 (v.2.1 - r41_.1))))
 (.c Yc (rec_ v.1 r41_.1 v.2.2.1 k r41_.2.2) fun r42_ =>
 .l (.inl ((wrap .i64 (r41_.1 + 1)), (v.2.1, (v.2.2.1, ((decide ((wrap .i64 (Int.tdiv (wrap .i64 (v.2.1 - v.1)) (8 : Int))) ≤ (wrap .i64 (r41_.1 - v.1)))), (r41_.2.1, r42_)))))))
 (.c Yc (rec_ (wrap .i64 (r41_.1 + 1)) v.2.1 v.2.2.1 k r41_.2.2) fun r43_ =>
 .l (.inl (v.1, (r41_.1, (v.2.2.1, ((decide ((wrap .i64 (Int.tdiv (wrap .i64 (v.2.1 - v.1)) (8 : Int))) ≤ (wrap .i64 (v.2.1 - r41_.1)))), (r41_.2.1, r43_)))))))))
 (.c Yad (wal v.1 v.2.1 r32_.1 k v.2.2.2.2.2) fun r44_ =>
 .g (!decide ((8 : Int) = 0)) <|
 .t (decide ((wrap .i64 (r44_.1 - v.1)) < (wrap .i64 (v.2.1 - r44_.1))))
 (.c Yc (rec_ v.1 r44_.1 v.2.2.1 k r44_.2.2) fun r45_ =>
 .l (.inl ((wrap .i64 (r44_.1 + 1)), (v.2.1, (v.2.2.1, ((decide ((wrap .i64 (Int.tdiv (wrap .i64 (v.2.1 - v.1)) (8 : Int))) ≤ (wrap .i64 (r44_.1 - v.1)))), (r44_.2.1, r45_)))))))
 (.c Yc (rec_ (wrap .i64 (r44_.1 + 1)) v.2.1 v.2.2.1 k r44_.2.2) fun r46_ =>
 .l (.inl (v.1, (r44_.1, (v.2.2.1, ((decide ((wrap .i64 (Int.tdiv (wrap .i64 (v.2.1 - v.1)) (8 : Int))) ≤ (wrap .i64 (v.2.1 - r44_.1)))), (r44_.2.1, r46_))))))))))
 (.t (decide (0 < v.1))
 (.g (inR (wrap .i64 (v.1 - 1)) (length v.2.2.2.2.2.1)) <|
 .g (decide ((toNat (wrap .i64 (v.1 - 1))) < length v.2.2.2.2.2.1) && decide ((getD v.2.2.2.2.2.1 (toNat (wrap .i64 (v.1 - 1))) 0) < length v.2.2.2.2.2.2)) <|
 .g (inR r32_.1 (length v.2.2.2.2.2.1)) <|
 .g (decide ((toNat r32_.1) < length v.2.2.2.2.2.1) && decide ((getD v.2.2.2.2.2.1 (toNat r32_.1) 0) < length v.2.2.2.2.2.2)) <|
 .c (Int) (k ((getD v.2.2.2.2.2.2 (getD v.2.2.2.2.2.1 (toNat (wrap .i64 (v.1 - 1))) 0) ([] : Y1)), ((getD v.2.2.2.2.2.2 (getD v.2.2.2.2.2.1 (toNat r32_.1) 0) ([] : Y1)), ()))) fun r47_ =>
 .t (!(decide (r47_ < 0)))
 (.f)
 (.c Yad (wal v.1 v.2.1 r32_.1 k v.2.2.2.2.2) fun r48_ =>
 .g (!decide ((8 : Int) = 0)) <|
 .t (decide ((wrap .i64 (r48_.1 - v.1)) < (wrap .i64 (v.2.1 - r48_.1))))
 (.c Yc (rec_ v.1 r48_.1 v.2.2.1 k r48_.2.2) fun r49_ =>
 .l (.inl ((wrap .i64 (r48_.1 + 1)), (v.2.1, (v.2.2.1, ((decide ((wrap .i64 (Int.tdiv (wrap .i64 (v.2.1 - v.1)) (8 : Int))) ≤ (wrap .i64 (r48_.1 - v.1)))), (r48_.2.1, r49_)))))))
 (.c Yc (rec_ (wrap .i64 (r48_.1 + 1)) v.2.1 v.2.2.1 k r48_.2.2) fun r50_ =>
 .l (.inl (v.1, (r48_.1, (v.2.2.1, ((decide ((wrap .i64 (Int.tdiv (wrap .i64 (v.2.1 - v.1)) (8 : Int))) ≤ (wrap .i64 (v.2.1 - r48_.1)))), (r48_.2.1, r50_)))))))))
 (.c Yad (wal v.1 v.2.1 r32_.1 k v.2.2.2.2.2) fun r51_ =>
 .g (!decide ((8 : Int) = 0)) <|
 .t (decide ((wrap .i64 (r51_.1 - v.1)) < (wrap .i64 (v.2.1 - r51_.1))))
 (.c Yc (rec_ v.1 r51_.1 v.2.2.1 k r51_.2.2) fun r52_ =>
 .l (.inl ((wrap .i64 (r51_.1 + 1)), (v.2.1, (v.2.2.1, ((decide ((wrap .i64 (Int.tdiv (wrap .i64 (v.2.1 - v.1)) (8 : Int))) ≤ (wrap .i64 (r51_.1 - v.1)))), (r51_.2.1, r52_)))))))
 (.c Yc (rec_ (wrap .i64 (r51_.1 + 1)) v.2.1 v.2.2.1 k r51_.2.2) fun r53_ =>
 .l (.inl (v.1, (r51_.1, (v.2.2.1, ((decide ((wrap .i64 (Int.tdiv (wrap .i64 (v.2.1 - v.1)) (8 : Int))) ≤ (wrap .i64 (v.2.1 - r51_.1)))), (r51_.2.1, r53_)))))))))))))
noncomputable def wvy (rec_ : (Int) → (Int) → (Int) → (Yf) → Yc → Option Yc) (k : Yf) (v : Int × (Int × (Int × (Bool × (Bool × Yc))))) : Option Yc := iter (fun v => (wiv rec_ k v).ev) v
noncomputable def wfe (rec_ : (Int) → (Int) → (Int) → (Yf) → Yc → Option Yc) : LD where
 head := { acts := [], S := { slots := [0, 1, 2, 3, 4, 10, 11], sh := (yj [.arr 64, .dat yi, .dat yi, .dat yi, .clo [y1, y1] yi, .dat .bool, .dat .bool]), obs := [Zp] } }
 exits := []
 rets := { acts := [], S := { slots := [0], sh := (yj [.arr 64]), obs := [Zp] } }
 K := Yf
 V := Int × (Int × (Int × (Bool × (Bool × Yc))))
 R := (List Nat) × Y2
 join := fun k v => (((), (v.1, (v.2.1, (v.2.2.1, (k, (v.2.2.2.1, (v.2.2.2.2.1, ()))))))), (v.2.2.2.2.2, ()))
 sk := fun t => t.1.2.2.2.2.1
 sv := fun t => (t.1.2.1, (t.1.2.2.1, (t.1.2.2.2.1, (t.1.2.2.2.2.2.1, (t.1.2.2.2.2.2.2.1, t.2.1)))))
 step := wiv rec_
 leaf := fun _ r => .l (.ret (mkSt ({ slots := [0], sh := (yj [.arr 64]), obs := [Zp] }) (((), ()), (r, ()))))
noncomputable def wack (rec_ : (Int) → (Int) → (Int) → (Yf) → Yc → Option Yc) (a2_ : Int) (a3_ : Int) (a4_ : Int) (a5_ : Yf) (a1_ : (List Nat) × Y2) : Tr Yc :=
 .c Yc (wvy rec_ a5_ (a2_, (a3_, (a4_, (true, (true, a1_)))))) fun r55_ =>
 .l r55_
noncomputable def wdj : Nat → (Int) → (Int) → (Int) → (Yf) → Yc → Option Yc
 | 0 => fun _ _ _ _ _ => none
 | n + 1 => fun a2_ a3_ a4_ a5_ a1_ => (wack (wdj n) a2_ a3_ a4_ a5_ a1_).ev
noncomputable def walt : RetK := { acts := [], res := [], sh := .nil, obs := [Zp], pins := [(0, 0, 64)] }
noncomputable def wna (rec_ : (Int) → (Int) → (Int) → (Yf) → Yc → Option Yc) : FD where
 A := (yj [.arr 64, .dat yi, .dat yi, .dat yi, .clo [y1, y1] yi])
 ins := [Zp]
 lend := [.arg 0]
 R := (List Nat) × Y2
 F := fun x => rec_ x.1.2.1 x.1.2.2.1 x.1.2.2.2.1 x.1.2.2.2.2.1 x.2.1
 emb := fun r => ([], [(64, .perm false 24 3 yi r.1 r.2)])
noncomputable def wvz (n : Nat) : FD := wna (wdj n)
noncomputable def wwa (rec_ : (Int) → (Int) → (Int) → (Yf) → Yc → Option Yc) : Env := envOf [(251, wvg), (253, wvk), (254, wvr), (258, wvx), (233, wna rec_)]
noncomputable def wwb (rec_ : (Int) → (Int) → (Int) → (Yf) → Yc → Option Yc) : List (Nat × LD) := [(0, wfe rec_)]
noncomputable def wwc : Code := (f233.body).getD .skip
noncomputable def wacl (a2_ : Yf) (a1_ : (List Nat) × Y2) : Tr Yc :=
 .c (Int) (wvd (wrap .u64 ((length a1_.1 : Nat) : Int))) fun r1_ =>
 .c Yc (wdj 1000000 (0 : Int) ((length a1_.1 : Nat) : Int) r1_ a2_ a1_) fun r2_ =>
 .l r2_
noncomputable def wacm (a2_ : Yf) (a1_ : (List Nat) × Y2) : Option Yc := (wacl a2_ a1_).ev
noncomputable def walu : RetK := { acts := [], res := [], sh := .nil, obs := [Zp], pins := [(0, 0, 64)] }
noncomputable def wmg : FD := yd (yj [.arr 64, .clo [y1, y1] yi]) [Zp] [.arg 0] Yc (fun x => wacm x.1.2.1 x.2.1) (fun r => ([], [(64, .perm false 24 3 yi r.1 r.2)]))
noncomputable def T_zc (a1_ : Int) : Tr (Bool) :=
 .l (a1_ != a1_)
noncomputable def F_zc (a1_ : Int) : Option (Bool) := (T_zc a1_).ev
noncomputable def K_zc : RetK := yr [.tmp 2] Zl
noncomputable def D_zc : FD := yd Zg [] [] Bool (fun x => F_zc x.1.1) (fun r => ([.dat .bool r], []))
noncomputable def T_za (a1_ : Int) (a2_ : Int) : Tr (Int) :=
 .c (Bool) (F_zc a1_) fun r1_ =>
 .c (Bool) (F_zc a2_) fun r2_ =>
 .t r1_
 (.t r2_
 (.l (0 : Int))
 (.l (-1 : Int)))
 (.t r2_
 (.l (1 : Int))
 (.t (decide (a1_ < a2_))
 (.l (-1 : Int))
 (.t (decide (a2_ < a1_))
 (.l (1 : Int))
 (.l (0 : Int)))))
noncomputable def F_za (a1_ : Int) (a2_ : Int) : Option (Int) := (T_za a1_ a2_).ev
noncomputable def K_za : RetK := yr [.tmp 4] Zg
noncomputable def D_za : FD := yd (yj [.dat yi, .dat yi]) [] [] Int (fun x => F_za x.1.1 x.1.2.1) (fun r => ([.dat yi r], []))
noncomputable def wiw (k : Y1 × (Y1 × (Y1 × Int))) (v : Int) : Tr ((Int) ⊕ ((Unit) ⊕ (Int))) :=
 .t (decide (v < k.2.2.2))
 (.g (inR v (length k.2.2.1)) <|
 .t (decide (((length k.2.1 : Nat) : Int) ≤ v))
 (.l (.inr (.inr (1 : Int))))
 (.g (inR v (length k.2.1)) <|
 .c (Int) (F_za (getD k.2.2.1 (toNat v) 0) (getD k.2.1 (toNat v) 0)) fun r6_ =>
 .t (r6_ != (0 : Int))
 (.l (.inr (.inr r6_)))
 (.l (.inl (wrap .i64 (v + 1))))))
 (.l (.inr (.inl ())))
noncomputable def wwe (k : Y1 × (Y1 × (Y1 × Int))) (v : Int) : Option ((Unit) ⊕ (Int)) := iter (fun v => (wiw k v).ev) v
noncomputable def wff : LD := ⟨(yh [0, 1, 9, 10, 11] (yj [.dat y1, .dat y1, .dat y1, .dat yi, .dat yi])), [(0, (yh [0, 1] (yj [.dat y1, .dat y1])))], (yh [4] Zg), Y1 × (Y1 × (Y1 × Int)), Int, (Unit) ⊕ (Int), fun k v => ((k.1, (k.2.1, (k.2.2.1, (k.2.2.2, (v, ()))))), ()), fun t => (t.1.1, (t.1.2.1, (t.1.2.2.1, t.1.2.2.2.1))), fun t => t.1.2.2.2.2.1, wiw, fun k r => .s (Unit) (Int) r (fun _ => .l (.exit 0 (mkSt ((ys [0, 1] (yj [.dat y1, .dat y1]))) ((k.1, (k.2.1, ())), ())))) (fun b => .l (.ret (mkSt ((ys [4] Zg)) ((b, ()), ()))))⟩
noncomputable def wacn (a1_ : Y1) (a2_ : Y1) : Tr (Int) :=
 .c ((Unit) ⊕ (Int)) (wwe (a1_, (a2_, (a1_, ((length a1_ : Nat) : Int)))) (0 : Int)) fun r10_ =>
 .s (Unit) (Int) r10_
 (fun _ => .t (decide (((length a1_ : Nat) : Int) < ((length a2_ : Nat) : Int)))
 (.l (-1 : Int))
 (.l (0 : Int)))
 (fun r12_ => .l r12_)
noncomputable def waco (a1_ : Y1) (a2_ : Y1) : Option (Int) := (wacn a1_ a2_).ev
noncomputable def waly : RetK := yr [.tmp 4] Zg
noncomputable def wwf : FD := yd (yj [.dat y1, .dat y1]) [] [] Int (fun x => waco x.1.1 x.1.2.1) (fun r => ([.dat yi r], []))
noncomputable def wwg : Env := envOf [(182, D_za)]
noncomputable def wwh : List (Nat × LD) := [(0, wff)]
noncomputable def wwi : Code := (f235.body).getD .skip
noncomputable def wnb (k : Int × (Y1 × Int)) (v : Int) : Tr ((Int) ⊕ ((Unit) ⊕ (Int))) :=
 .t (decide (v < k.2.2))
 (.g (inR v (length k.2.1)) <|
 .t ((getD k.2.1 (toNat v) 0) != k.1)
 (.l (.inr (.inr (getD k.2.1 (toNat v) 0))))
 (.l (.inl (wrap .i64 (v + 1)))))
 (.l (.inr (.inl ())))
noncomputable def wacp (k : Int × (Y1 × Int)) (v : Int) : Option ((Unit) ⊕ (Int)) := iter (fun v => (wnb k v).ev) v
noncomputable def wix : LD := ⟨(yh [3, 6, 7, 8] (yj [.dat yi, .dat y1, .dat yi, .dat yi])), [(0, (yh [3] Zg))], (yh [2] Zg), Int × (Y1 × Int), Int, (Unit) ⊕ (Int), fun k v => ((k.1, (k.2.1, (k.2.2, (v, ())))), ()), fun t => (t.1.1, (t.1.2.1, t.1.2.2.1)), fun t => t.1.2.2.2.1, wnb, fun k r => .s (Unit) (Int) r (fun _ => .l (.exit 0 (mkSt ((ys [3] Zg)) ((k.1, ()), ())))) (fun b => .l (.ret (mkSt ((ys [2] Zg)) ((b, ()), ()))))⟩
noncomputable def T_zb (a1_ : Y1) : Tr (Int) :=
 .c ((Unit) ⊕ (Int)) (wacp ((0 : Int), (a1_, ((length a1_ : Nat) : Int))) (0 : Int)) fun r7_ =>
 .s (Unit) (Int) r7_
 (fun _ => .l (0 : Int))
 (fun r9_ => .l r9_)
noncomputable def F_zb (a1_ : Y1) : Option (Int) := (T_zb a1_).ev
noncomputable def K_zb : RetK := yr [.tmp 2] Zg
noncomputable def D_zb : FD := yd (yj [.dat y1]) [] [] Int (fun x => F_zb x.1.1) (fun r => ([.dat yi r], []))
noncomputable def E_zb : Env := envOf []
noncomputable def O_zb : List (Nat × LD) := [(0, wix)]
noncomputable def C_zb : Code := (f181.body).getD .skip
noncomputable def wacq (a1_ : Y1) (a2_ : Y1) : Tr (Int) :=
 .c (Int) (F_za ((length a1_ : Nat) : Int) ((length a2_ : Nat) : Int)) fun r1_ =>
 .c (Int) (waco a1_ a2_) fun r2_ =>
 .c (Int) (F_zb ([r1_, r2_] : Y1)) fun r3_ =>
 .l r3_
noncomputable def wacr (a1_ : Y1) (a2_ : Y1) : Option (Int) := (wacq a1_ a2_).ev
noncomputable def wamd : RetK := yr [.tmp 4] Zg
noncomputable def wwj : FD := yd (yj [.dat y1, .dat y1]) [] [] Int (fun x => wacr x.1.1 x.1.2.1) (fun r => ([.dat yi r], []))
noncomputable def wiy (k : Int) (v : Int × Y2) : Tr (Yam ⊕ Y2) :=
 .g (decide (0 ≤ k)) <|
 .t (decide (v.1 < (wrap .u64 ((1 : Int) * 2 ^ (min (toNat k) Zb)))))
 (.c Y1 (wbn v.1) fun r4_ =>
 .g (decide ((length v.2 + 1) * 24 ≤ 140737488355328)) <|
 .l (.inl ((wrap .u64 (v.1 + 1)), (set (v.2 ++ [[]]) (length v.2) r4_))))
 (.l (.inr v.2))
noncomputable def wwk (k : Int) (v : Int × Y2) : Option Y2 := iter (fun v => (wiy k v).ev) v
noncomputable def wfg : LD := ⟨{ acts := [], S := { slots := [0, 3, 4], sh := (yj [.dat yi, .arr 5, .dat (.int .u64)]), obs := [(5, .rows 24 3 yi)] } }, [(0, { acts := [], S := { slots := [3], sh := (yj [.arr 5]), obs := [(5, .rows 24 3 yi)] } })], (yh [] .nil), Int, Int × Y2, List Y1, fun k v => ((k, ((), (v.1, ()))), (v.2, ())), fun t => t.1.1, fun t => (t.1.2.2.1, t.2.1), wiy, fun _ r => .l (.exit 0 (mkSt ({ slots := [3], sh := (yj [.arr 5]), obs := [(5, .rows 24 3 yi)] }) (((), ()), (r, ()))))⟩
noncomputable def wacs (a1_ : Int) : Tr Yc :=
 .c Y2 (wwk a1_ ((1 : Int), ([] : List Y1))) fun r6_ =>
 .c Yc (wacm (fun h7_ => Option.bind (wacr h7_.1 h7_.2.1) fun y8_ => some y8_) ((List.range (length r6_)), r6_)) fun r9_ =>
 .l r9_
noncomputable def wiz (a1_ : Int) : Option Yc := (wacs a1_).ev
noncomputable def wame : RetK := { acts := [.ren 5 0], res := [.tmp 2], sh := Zan, obs := [(0, .perm 24 3 yi)], pins := [] }
noncomputable def wwl : FD := yd Zg [] [] Yc (fun x => wiz x.1.1) (fun r => ([.arr 0], [(0, .perm false 24 3 yi r.1 r.2)]))
noncomputable def wwm : Nat → Nat → List Nat := fun r i => match look [(1, [(0, [1000000])]), (6, [(1, [80000017])])] r with
 | some l => (look l i).getD []
 | none => []
noncomputable def wwn : Env := envOf [(144, wgc), (184, wmg), (184, wmg), (185, wwj)]
noncomputable def wwo : List (Nat × LD) := [(0, wfg)]
noncomputable def wwp : Code := (f91.body).getD .skip
noncomputable def wam (k : ((HL [y1] → Option (Int))) × (Int × Yc)) (v : (Nat) × Int) : Tr (((Nat) × Int) ⊕ (Nat)) :=
 .t (decide (v.2 < k.2.1))
 (.g (inR v.2 (length k.2.2.1)) <|
 .g (decide ((toNat v.2) < length k.2.2.1) && decide ((getD k.2.2.1 (toNat v.2) 0) < length k.2.2.2)) <|
 .c (Int) (k.1 ((getD k.2.2.2 (getD k.2.2.1 (toNat v.2) 0) ([] : Y1)), ())) fun r6_ =>
 .c (Int) (k.1 ((getD k.2.2.2 v.1 ([] : Y1)), ())) fun r7_ =>
 .t (decide (r6_ < r7_))
 (.l (.inl ((getD k.2.2.1 (toNat v.2) 0), (wrap .i64 (v.2 + 1)))))
 (.l (.inl (v.1, (wrap .i64 (v.2 + 1))))))
 (.l (.inr v.1))
noncomputable def wja (k : ((HL [y1] → Option (Int))) × (Int × Yc)) (v : (Nat) × Int) : Option (Nat) := iter (fun v => (wam k v).ev) v
noncomputable def wfh : LD := ⟨{ acts := [], S := { slots := [0, 1, 5, 11, 12, 13], sh := (yj [.arr 64, .clo [y1] yi, .row 64, .arr 64, .dat yi, .dat yi]), obs := [Zp] } }, [(0, { acts := [], S := { slots := [0, 5], sh := (yj [.arr 64, .row 64]), obs := [Zp] } })], (yh [] .nil), ((HL [y1] → Option (Int))) × (Int × Yc), (Nat) × (Int), Nat, fun k v => (((), (k.1, (v.1, ((), (k.2.1, (v.2, ())))))), (k.2.2, ())), fun t => (t.1.2.1, (t.1.2.2.2.2.1, t.2.1)), fun t => (t.1.2.2.1, t.1.2.2.2.2.2.1), wam, fun k r => .l (.exit 0 (mkSt ({ slots := [0, 5], sh := (yj [.arr 64, .row 64]), obs := [Zp] }) (((), (r, ())), (k.2.2, ()))))⟩
noncomputable def wwq (a2_ : (HL [y1] → Option (Int))) (a1_ : (List Nat) × Y2) : Tr Y1 :=
 .g (inR 0 (length a1_.1)) <|
 .g (decide ((toNat 0) < length a1_.1) && decide ((getD a1_.1 (toNat 0) 0) < length a1_.2)) <|
 .c (Nat) (wja (a2_, (((length a1_.1 : Nat) : Int), a1_)) ((getD a1_.1 (toNat 0) 0), (0 : Int))) fun r10_ =>
 .l (getD a1_.2 r10_ ([] : Y1))
noncomputable def wmh (a2_ : (HL [y1] → Option (Int))) (a1_ : (List Nat) × Y2) : Option Y1 := (wwq a2_ a1_).ev
noncomputable def wamf : RetK := { acts := [.pull 4 800000, .ren 800000 0], res := [.tmp 4], sh := Zan, obs := [Zal], pins := [], gone := [64] }
noncomputable def wmi : FD := yd (yj [.arr 64, .clo [y1] yi]) [Zp] [.arg 0] Y1 (fun x => wmh x.1.2.1 x.2.1) (fun r => ([.arr 0], [(0, .arr 3 yi r), (64, .spent)]))
noncomputable def wwr : Env := envOf []
noncomputable def wws : List (Nat × LD) := [(0, wfh)]
noncomputable def wwt : Code := (f94.body).getD .skip
noncomputable def T_ze (a1_ : Y1) (a2_ : List Y1) : Tr Yak :=
 .c (Bool) (F_zu a1_ a2_) fun r1_ =>
 .t (!r1_)
 (.l (false, ([] : Y1)))
 (.c Yc (wiz ((length a1_ : Nat) : Int)) fun r2_ =>
 .c Y1 (wmh (fun h3_ => Option.bind (wif a1_ a2_ h3_.1) fun y4_ => some y4_) r2_) fun r5_ =>
 .l (true, r5_))
noncomputable def F_ze (a1_ : Y1) (a2_ : List Y1) : Option Yak := (T_ze a1_ a2_).ev
noncomputable def K_ze : RetK := { acts := [.own 2 0 3 yi, .ren 832 0], res := [.tmp 2, .tmp 3], sh := (yj [.arr 0, .dat .bool]), obs := [Zal], pins := [] }
noncomputable def D_ze : FD := yd (yj [.agg Ze]) [] [] Yak (fun x => F_ze x.1.1.1 x.1.1.2.1) (fun r => ([.arr 0, .dat .bool r.1], [(0, .arr 3 yi r.2)]))
noncomputable def S_zh (k : Bool × (Y1 × (Int × Yag))) (v : Int × Y2) : Tr (Yam ⊕ Y2) :=
 .t (decide (v.1 < k.2.2.1))
 (.g (inR v.1 (length k.2.1)) <|
 .g (inR v.1 (length v.2)) <|
 .g (decide ((toNat v.1) < length v.2)) <|
 .g (decide ((length (getD v.2 (toNat v.1) ([] : Y1)) + length ([(getD k.2.1 (toNat v.1) 0)] : Y1)) * 8 ≤ 140737488355328)) <|
 .g (inR v.1 (length v.2)) <|
 .g (decide ((toNat v.1) < length v.2) && decide ((toNat v.1) = (toNat v.1))) <|
 .l (.inl ((wrap .i64 (v.1 + 1)), (set v.2 (toNat v.1) ((getD v.2 (toNat v.1) ([] : Y1)) ++ ([(getD k.2.1 (toNat v.1) 0)] : Y1))))))
 (.l (.inr v.2))
noncomputable def L_zh (k : Bool × (Y1 × (Int × Yag))) (v : Int × Y2) : Option Y2 := iter (fun v => (S_zh k v).ev) v
noncomputable def wacu : LD := ⟨{ acts := [.ownB 4 0 901340 3 yi, .ownB 4 2 901342 3 yi], S := { slots := [4, 6, 9, 165, 166, 167], sh := (yj [.box 4 0, .box 6 0, .dat .bool, .dat y1, .dat yi, .dat yi]), obs := [Zx, (6, .cells (yj [.arr 1859, .arr 1860, .arr 1861, .dat yi])), (901340, .arr 3 yi), (901342, .arr 3 yi), (1859, .arr 3 yi), (1860, .rows 24 3 yi), (1861, .arr 3 yi)] } }, [(1, { acts := [], S := { slots := [4, 6, 9], sh := (yj [.box 4 0, .box 6 0, .dat .bool]), obs := [Zx, (6, .cells (yj [.arr 1859, .arr 1860, .arr 1861, .dat yi])), (901340, .arr 3 yi), (901342, .arr 3 yi), (1859, .arr 3 yi), (1860, .rows 24 3 yi), (1861, .arr 3 yi)] } })], (yh [] .nil), Bool × (Y1 × (Int × Yag)), Int × Y2, List Y1, fun k v => (((), ((), (k.1, (k.2.1, (k.2.2.1, (v.1, ())))))), (((), ((), ((), (k.2.2.2.1, ())))), (((), ((), ((), (k.2.2.2.2.1, ())))), (k.2.2.2.2.2.1, (k.2.2.2.2.2.2.1, (k.2.2.2.2.2.2.2.1, (v.2, (k.2.2.2.2.2.2.2.2, ())))))))), fun t => (t.1.2.2.1, (t.1.2.2.2.1, (t.1.2.2.2.2.1, (t.2.1.2.2.2.1, (t.2.2.1.2.2.2.1, (t.2.2.2.1, (t.2.2.2.2.1, (t.2.2.2.2.2.1, t.2.2.2.2.2.2.2.1)))))))), fun t => (t.1.2.2.2.2.2.1, t.2.2.2.2.2.2.1), S_zh, fun k r => .l (.exit 1 (mkSt ({ slots := [4, 6, 9], sh := (yj [.box 4 0, .box 6 0, .dat .bool]), obs := [Zx, (6, .cells (yj [.arr 1859, .arr 1860, .arr 1861, .dat yi])), (901340, .arr 3 yi), (901342, .arr 3 yi), (1859, .arr 3 yi), (1860, .rows 24 3 yi), (1861, .arr 3 yi)] }) (((), ((), (k.1, ()))), (((), ((), ((), (k.2.2.2.1, ())))), (((), ((), ((), (k.2.2.2.2.1, ())))), (k.2.2.2.2.2.1, (k.2.2.2.2.2.2.1, (k.2.2.2.2.2.2.2.1, (r, (k.2.2.2.2.2.2.2.2, ()))))))))))⟩
noncomputable def wcv (k : Int × (Bool × Yao)) (v : Int × Y2) : Tr (Yam ⊕ Y2) :=
 .t (decide (v.1 < k.2.2.1))
 (.g (inR v.1 (length v.2)) <|
 .g (decide ((toNat v.1) < length v.2)) <|
 .c (List Int) (wlv k.1 (wrap .i64 (k.1 + 1)) (getD v.2 (toNat v.1) ([] : Y1))) fun r65_ =>
 .g (inR v.1 (length v.2)) <|
 .g (decide ((toNat v.1) < length v.2) && decide ((toNat v.1) = (toNat v.1))) <|
 .l (.inl ((wrap .i64 (v.1 + 1)), (set v.2 (toNat v.1) r65_))))
 (.l (.inr v.2))
noncomputable def wnc (k : Int × (Bool × Yao)) (v : Int × Y2) : Option Y2 := iter (fun v => (wcv k v).ev) v
noncomputable def wjb : LD := ⟨{ acts := [], S := { slots := [4, 6, 7, 9, 222, 223, 224], sh := (yj [.box 4 0, .box 6 0, .dat yi, .dat .bool, .arr 1860, .dat yi, .dat yi]), obs := [Zk, Zy, (1860, .rows 24 3 yi), (13888, .arr 3 yi), (1861, .arr 3 yi)] } }, [(3, { acts := [], S := { slots := [4, 6, 7, 9], sh := (yj [.box 4 0, .box 6 0, .dat yi, .dat .bool]), obs := [Zk, Zy, (13888, .arr 3 yi), (1860, .rows 24 3 yi), (1861, .arr 3 yi)] } })], (yh [] .nil), Int × (Bool × Yao), Int × Y2, List Y1, fun k v => (((), ((), (k.1, (k.2.1, ((), (k.2.2.1, (v.1, ()))))))), (((), ((), ((), (k.2.2.2.1, ())))), (((), ((), ((), (k.2.2.2.2.1, ())))), (v.2, (k.2.2.2.2.2.1, (k.2.2.2.2.2.2, ())))))), fun t => (t.1.2.2.1, (t.1.2.2.2.1, (t.1.2.2.2.2.2.1, (t.2.1.2.2.2.1, (t.2.2.1.2.2.2.1, (t.2.2.2.2.1, t.2.2.2.2.2.1)))))), fun t => (t.1.2.2.2.2.2.2.1, t.2.2.2.1), wcv, fun k r => .l (.exit 3 (mkSt ({ slots := [4, 6, 7, 9], sh := (yj [.box 4 0, .box 6 0, .dat yi, .dat .bool]), obs := [Zk, Zy, (13888, .arr 3 yi), (1860, .rows 24 3 yi), (1861, .arr 3 yi)] }) (((), ((), (k.1, (k.2.1, ())))), (((), ((), ((), (k.2.2.2.1, ())))), (((), ((), ((), (k.2.2.2.2.1, ())))), (k.2.2.2.2.2.1, (r, (k.2.2.2.2.2.2, ()))))))))⟩
noncomputable def wbz (k : Int × (Bool × (Int × (Int × (Int × Yv))))) (v : Int × Y1) : Tr (Yab ⊕ Y1) :=
 .t (decide (v.1 < k.2.2.1))
 (.g (inR v.1 (length v.2)) <|
 .g (decide ((toNat v.1) < length v.2)) <|
 .t (decide (k.1 < (getD v.2 (toNat v.1) 0)))
 (.g (inR v.1 (length v.2)) <|
 .g (decide ((toNat v.1) < length v.2)) <|
 .g (inR v.1 (length v.2)) <|
 .g (decide ((toNat v.1) < length v.2)) <|
 .l (.inl ((wrap .i64 (v.1 + 1)), (set v.2 (toNat v.1) (wrap .i64 ((getD v.2 (toNat v.1) 0) - 1))))))
 (.l (.inl ((wrap .i64 (v.1 + 1)), v.2))))
 (.l (.inr v.2))
noncomputable def wnd (k : Int × (Bool × (Int × (Int × (Int × Yv))))) (v : Int × Y1) : Option Y1 := iter (fun v => (wbz k v).ev) v
noncomputable def wjc : LD := ⟨{ acts := [], S := { slots := [4, 6, 7, 9, 241, 242, 243], sh := (yj [.box 4 0, .box 6 0, .dat yi, .dat .bool, .arr 1861, .dat yi, .dat yi]), obs := [Zk, Zy, (1861, .arr 3 yi), (13888, .arr 3 yi), (1860, .rows 24 3 yi)] } }, [(5, { acts := [], S := { slots := [4, 6, 9], sh := (yj [.box 4 0, .box 6 0, .dat .bool]), obs := [Zk, Zy, (13888, .arr 3 yi), (1860, .rows 24 3 yi), (1861, .arr 3 yi)] } })], (yh [] .nil), Int × (Bool × (Int × (Int × (Int × Yv)))), Int × Y1, Y1, fun k v => (((), ((), (k.1, (k.2.1, ((), (k.2.2.1, (v.1, ()))))))), (((), ((), ((), (k.2.2.2.1, ())))), (((), ((), ((), (k.2.2.2.2.1, ())))), (v.2, (k.2.2.2.2.2.1, (k.2.2.2.2.2.2, ())))))), fun t => (t.1.2.2.1, (t.1.2.2.2.1, (t.1.2.2.2.2.2.1, (t.2.1.2.2.2.1, (t.2.2.1.2.2.2.1, (t.2.2.2.2.1, t.2.2.2.2.2.1)))))), fun t => (t.1.2.2.2.2.2.2.1, t.2.2.2.1), wbz, fun k r => .l (.exit 5 (mkSt ({ slots := [4, 6, 9], sh := (yj [.box 4 0, .box 6 0, .dat .bool]), obs := [Zk, Zy, (13888, .arr 3 yi), (1860, .rows 24 3 yi), (1861, .arr 3 yi)] }) (((), ((), (k.2.1, ()))), (((), ((), ((), (k.2.2.2.1, ())))), (((), ((), ((), (k.2.2.2.2.1, ())))), (k.2.2.2.2.2.1, (k.2.2.2.2.2.2, (r, ()))))))))⟩
noncomputable def T_zg (a1_ : Y1) (a2_ : List Y1) (a3_ : Y1) (a4_ : Int) (a5_ : Int) (a6_ : Int) (a7_ : Int) (a8_ : Int) (a9_ : Y1) : Tr Yt :=
 .c (Bool) (wao a1_ a2_ a3_ a4_) fun r1_ =>
 .t (!r1_)
 (.l ((0 : Int), (false, (([] : Y1), (([] : List Y1), ([] : Y1))))))
 (.c (Bool) (F_zi a5_ a6_ a7_ a8_ a9_) fun r2_ =>
 .t (!r2_)
 (.l ((0 : Int), (false, (([] : Y1), (([] : List Y1), ([] : Y1))))))
 (.c Yh (F_zd a1_ a2_ a3_ a4_) fun r3_ =>
 .c (Int) (F_zz a3_) fun r4_ =>
 .c (Bool) (wby a6_ (0 : Int) (wrap .i64 (((length a2_ : Nat) : Int) - 1))) fun r5_ =>
 .t (a5_ == 1)
 (.c (Bool) (wju a6_ a1_ a2_ a3_ a4_) fun r6_ =>
 .t r6_
 (.c (Bool) (wap r4_ a6_) fun r7_ =>
 .t (!r7_)
 (.g (decide (0 ≤ a6_)) <|
 .c Y1 (wbn (wrap .u64 (BitVec.toNat ((BitVec.ofInt Zb r4_) ||| (BitVec.ofInt Zb (wrap .u64 ((1 : Int) * 2 ^ (min (toNat a6_) Zb)))))))) fun r8_ =>
 .t (!(!r7_))
 (.l ((0 : Int), (false, (([] : Y1), (([] : List Y1), ([] : Y1))))))
 (.c (Bool) (wao r3_.2.1 r3_.2.2.1 r8_ (wrap .i64 (r3_.1 + 1))) fun r9_ =>
 .t (!r9_)
 (.l ((0 : Int), (false, (([] : Y1), (([] : List Y1), ([] : Y1))))))
 (.l ((wrap .i64 (r3_.1 + 1)), (true, (r3_.2.1, (r3_.2.2.1, r8_)))))))
 (.t (!(!r7_))
 (.l ((0 : Int), (false, (([] : Y1), (([] : List Y1), ([] : Y1))))))
 (.c (Bool) (wao r3_.2.1 r3_.2.2.1 r3_.2.2.2 (wrap .i64 (r3_.1 + 1))) fun r10_ =>
 .t (!r10_)
 (.l ((0 : Int), (false, (([] : Y1), (([] : List Y1), ([] : Y1))))))
 (.l ((wrap .i64 (r3_.1 + 1)), (true, (r3_.2.1, (r3_.2.2.1, r3_.2.2.2))))))))
 (.l ((0 : Int), (false, (([] : Y1), (([] : List Y1), ([] : Y1)))))))
 (.t (a5_ == 2)
 (.c (Bool) (wju a6_ a1_ a2_ a3_ a4_) fun r11_ =>
 .t r11_
 (.c (Bool) (wap r4_ a6_) fun r12_ =>
 .t r12_
 (.g (decide (0 ≤ a6_)) <|
 .c Y1 (wbn (wrap .u64 (BitVec.toNat ((BitVec.ofInt Zb r4_) &&& ~~~(BitVec.ofInt Zb (wrap .u64 ((1 : Int) * 2 ^ (min (toNat a6_) Zb)))))))) fun r13_ =>
 .t (!r12_)
 (.l ((0 : Int), (false, (([] : Y1), (([] : List Y1), ([] : Y1))))))
 (.c (Bool) (wao r3_.2.1 r3_.2.2.1 r13_ (wrap .i64 (r3_.1 + 1))) fun r14_ =>
 .t (!r14_)
 (.l ((0 : Int), (false, (([] : Y1), (([] : List Y1), ([] : Y1))))))
 (.l ((wrap .i64 (r3_.1 + 1)), (true, (r3_.2.1, (r3_.2.2.1, r13_)))))))
 (.t (!r12_)
 (.l ((0 : Int), (false, (([] : Y1), (([] : List Y1), ([] : Y1))))))
 (.c (Bool) (wao r3_.2.1 r3_.2.2.1 r3_.2.2.2 (wrap .i64 (r3_.1 + 1))) fun r15_ =>
 .t (!r15_)
 (.l ((0 : Int), (false, (([] : Y1), (([] : List Y1), ([] : Y1))))))
 (.l ((wrap .i64 (r3_.1 + 1)), (true, (r3_.2.1, (r3_.2.2.1, r3_.2.2.2))))))))
 (.l ((0 : Int), (false, (([] : Y1), (([] : List Y1), ([] : Y1)))))))
 (.t (a5_ == 3)
 (.c (Bool) (wju a6_ a1_ a2_ a3_ a4_) fun r16_ =>
 .t r16_
 (.c (Bool) (wju a7_ a1_ a2_ a3_ a4_) fun r17_ =>
 .t r17_
 (.c (Bool) (wap r4_ a6_) fun r18_ =>
 .t r18_
 (.c (Bool) (wap r4_ a7_) fun r19_ =>
 .t (!r19_)
 (.c Y1 (whx a3_ a6_ a7_) fun r20_ =>
 .t (!(!r19_))
 (.l ((0 : Int), (false, (([] : Y1), (([] : List Y1), ([] : Y1))))))
 (.c (Bool) (wao r3_.2.1 r3_.2.2.1 r20_ (wrap .i64 (r3_.1 + 1))) fun r21_ =>
 .t (!r21_)
 (.l ((0 : Int), (false, (([] : Y1), (([] : List Y1), ([] : Y1))))))
 (.l ((wrap .i64 (r3_.1 + 1)), (true, (r3_.2.1, (r3_.2.2.1, r20_)))))))
 (.t (!(!r19_))
 (.l ((0 : Int), (false, (([] : Y1), (([] : List Y1), ([] : Y1))))))
 (.c (Bool) (wao r3_.2.1 r3_.2.2.1 r3_.2.2.2 (wrap .i64 (r3_.1 + 1))) fun r22_ =>
 .t (!r22_)
 (.l ((0 : Int), (false, (([] : Y1), (([] : List Y1), ([] : Y1))))))
 (.l ((wrap .i64 (r3_.1 + 1)), (true, (r3_.2.1, (r3_.2.2.1, r3_.2.2.2))))))))
 (.l ((0 : Int), (false, (([] : Y1), (([] : List Y1), ([] : Y1)))))))
 (.l ((0 : Int), (false, (([] : Y1), (([] : List Y1), ([] : Y1)))))))
 (.l ((0 : Int), (false, (([] : Y1), (([] : List Y1), ([] : Y1)))))))
 (.t (a5_ == 4)
 (.c (Bool) (wju a6_ a1_ a2_ a3_ a4_) fun r23_ =>
 .t r23_
 (.g (inR a6_ (length r3_.2.1)) <|
 .g (decide ((toNat a6_) < length r3_.2.1)) <|
 .t (!r23_)
 (.l ((0 : Int), (false, (([] : Y1), (([] : List Y1), ([] : Y1))))))
 (.c (Bool) (wao (set r3_.2.1 (toNat a6_) a7_) r3_.2.2.1 r3_.2.2.2 (wrap .i64 (r3_.1 + 1))) fun r24_ =>
 .t (!r24_)
 (.l ((0 : Int), (false, (([] : Y1), (([] : List Y1), ([] : Y1))))))
 (.l ((wrap .i64 (r3_.1 + 1)), (true, ((set r3_.2.1 (toNat a6_) a7_), (r3_.2.2.1, r3_.2.2.2)))))))
 (.t (!r23_)
 (.l ((0 : Int), (false, (([] : Y1), (([] : List Y1), ([] : Y1))))))
 (.c (Bool) (wao r3_.2.1 r3_.2.2.1 r3_.2.2.2 (wrap .i64 (r3_.1 + 1))) fun r25_ =>
 .t (!r25_)
 (.l ((0 : Int), (false, (([] : Y1), (([] : List Y1), ([] : Y1))))))
 (.l ((wrap .i64 (r3_.1 + 1)), (true, (r3_.2.1, (r3_.2.2.1, r3_.2.2.2))))))))
 (.t (a5_ == 5)
 (.t r5_
 (.c (Bool) (wju a7_ a1_ a2_ a3_ a4_) fun r26_ =>
 .t r26_
 (.g (inR a6_ (length r3_.2.2.1)) <|
 .g (decide ((toNat a6_) < length r3_.2.2.1)) <|
 .g (inR a7_ (length (getD r3_.2.2.1 (toNat a6_) ([] : Y1)))) <|
 .g (decide ((toNat a7_) < length (getD r3_.2.2.1 (toNat a6_) ([] : Y1)))) <|
 .t (!r26_)
 (.l ((0 : Int), (false, (([] : Y1), (([] : List Y1), ([] : Y1))))))
 (.c (Bool) (wao r3_.2.1 (set r3_.2.2.1 (toNat a6_) (set (getD r3_.2.2.1 (toNat a6_) ([] : Y1)) (toNat a7_) a8_)) r3_.2.2.2 (wrap .i64 (r3_.1 + 1))) fun r27_ =>
 .t (!r27_)
 (.l ((0 : Int), (false, (([] : Y1), (([] : List Y1), ([] : Y1))))))
 (.l ((wrap .i64 (r3_.1 + 1)), (true, (r3_.2.1, ((set r3_.2.2.1 (toNat a6_) (set (getD r3_.2.2.1 (toNat a6_) ([] : Y1)) (toNat a7_) a8_)), r3_.2.2.2)))))))
 (.t (!r26_)
 (.l ((0 : Int), (false, (([] : Y1), (([] : List Y1), ([] : Y1))))))
 (.c (Bool) (wao r3_.2.1 r3_.2.2.1 r3_.2.2.2 (wrap .i64 (r3_.1 + 1))) fun r28_ =>
 .t (!r28_)
 (.l ((0 : Int), (false, (([] : Y1), (([] : List Y1), ([] : Y1))))))
 (.l ((wrap .i64 (r3_.1 + 1)), (true, (r3_.2.1, (r3_.2.2.1, r3_.2.2.2))))))))
 (.l ((0 : Int), (false, (([] : Y1), (([] : List Y1), ([] : Y1)))))))
 (.t (a5_ == 6)
 (.t (((length a9_ : Nat) : Int) == ((length a2_ : Nat) : Int))
 (.g (decide ((length r3_.2.1 + length ([a6_] : Y1)) * 8 ≤ 140737488355328)) <|
 .c Y2 (L_zh ((((length a9_ : Nat) : Int) == ((length a2_ : Nat) : Int)), (a9_, (((length a9_ : Nat) : Int), ((0 : Int), ((wrap .i64 (r3_.1 + 1)), (([] : Y1), (([] : Y1), ((r3_.2.1 ++ ([a6_] : Y1)), r3_.2.2.2)))))))) ((0 : Int), r3_.2.2.1)) fun r48_ =>
 .t (!(((length a9_ : Nat) : Int) == ((length a2_ : Nat) : Int)))
 (.l ((0 : Int), (false, (([] : Y1), (([] : List Y1), ([] : Y1))))))
 (.c (Bool) (wao (r3_.2.1 ++ ([a6_] : Y1)) r48_ r3_.2.2.2 (wrap .i64 (r3_.1 + 1))) fun r49_ =>
 .t (!r49_)
 (.l ((0 : Int), (false, (([] : Y1), (([] : List Y1), ([] : Y1))))))
 (.l ((wrap .i64 (r3_.1 + 1)), (true, ((r3_.2.1 ++ ([a6_] : Y1)), (r48_, r3_.2.2.2)))))))
 (.t (!(((length a9_ : Nat) : Int) == ((length a2_ : Nat) : Int)))
 (.l ((0 : Int), (false, (([] : Y1), (([] : List Y1), ([] : Y1))))))
 (.c (Bool) (wao r3_.2.1 r3_.2.2.1 r3_.2.2.2 (wrap .i64 (r3_.1 + 1))) fun r50_ =>
 .t (!r50_)
 (.l ((0 : Int), (false, (([] : Y1), (([] : List Y1), ([] : Y1))))))
 (.l ((wrap .i64 (r3_.1 + 1)), (true, (r3_.2.1, (r3_.2.2.1, r3_.2.2.2))))))))
 (.t (a5_ == 7)
 (.c (List Int) (wce a9_) fun r51_ =>
 .g (decide ((length r3_.2.2.1 + 1) * 24 ≤ 140737488355328)) <|
 .c (Bool) (wao r3_.2.1 (set (r3_.2.2.1 ++ [[]]) (length r3_.2.2.1) r51_) r3_.2.2.2 (wrap .i64 (r3_.1 + 1))) fun r52_ =>
 .t (!r52_)
 (.l ((0 : Int), (false, (([] : Y1), (([] : List Y1), ([] : Y1))))))
 (.l ((wrap .i64 (r3_.1 + 1)), (true, (r3_.2.1, ((set (r3_.2.2.1 ++ [[]]) (length r3_.2.2.1) r51_), r3_.2.2.2))))))
 (.t (a5_ == 8)
 (.c (Bool) (wju a6_ a1_ a2_ a3_ a4_) fun r53_ =>
 .t r53_
 (.c (Bool) (wap r4_ a6_) fun r54_ =>
 .t (!r54_)
 (.c (List Int) (wlv a6_ (wrap .i64 (a6_ + 1)) r3_.2.1) fun r55_ =>
 .c Y2 (wnc (a6_, ((!r54_), (((length r3_.2.2.1 : Nat) : Int), ((0 : Int), ((wrap .i64 (r3_.1 + 1)), (r55_, r3_.2.2.2)))))) ((0 : Int), r3_.2.2.1)) fun r73_ =>
 .c Y1 (wnd (a6_, ((!r54_), (((length r3_.2.2.2 : Nat) : Int), ((0 : Int), ((wrap .i64 (r3_.1 + 1)), (r55_, r73_)))))) ((0 : Int), r3_.2.2.2)) fun r89_ =>
 .t (!(!r54_))
 (.l ((0 : Int), (false, (([] : Y1), (([] : List Y1), ([] : Y1))))))
 (.c (Bool) (wao r55_ r73_ r89_ (wrap .i64 (r3_.1 + 1))) fun r90_ =>
 .t (!r90_)
 (.l ((0 : Int), (false, (([] : Y1), (([] : List Y1), ([] : Y1))))))
 (.l ((wrap .i64 (r3_.1 + 1)), (true, (r55_, (r73_, r89_)))))))
 (.t (!(!r54_))
 (.l ((0 : Int), (false, (([] : Y1), (([] : List Y1), ([] : Y1))))))
 (.c (Bool) (wao r3_.2.1 r3_.2.2.1 r3_.2.2.2 (wrap .i64 (r3_.1 + 1))) fun r91_ =>
 .t (!r91_)
 (.l ((0 : Int), (false, (([] : Y1), (([] : List Y1), ([] : Y1))))))
 (.l ((wrap .i64 (r3_.1 + 1)), (true, (r3_.2.1, (r3_.2.2.1, r3_.2.2.2))))))))
 (.l ((0 : Int), (false, (([] : Y1), (([] : List Y1), ([] : Y1)))))))
 (.t (a5_ == 9)
 (.t r5_
 (.c (List (List Int)) (wabp a6_ (wrap .i64 (a6_ + 1)) r3_.2.2.1) fun r92_ =>
 .t (!r5_)
 (.l ((0 : Int), (false, (([] : Y1), (([] : List Y1), ([] : Y1))))))
 (.c (Bool) (wao r3_.2.1 r92_ r3_.2.2.2 (wrap .i64 (r3_.1 + 1))) fun r93_ =>
 .t (!r93_)
 (.l ((0 : Int), (false, (([] : Y1), (([] : List Y1), ([] : Y1))))))
 (.l ((wrap .i64 (r3_.1 + 1)), (true, (r3_.2.1, (r92_, r3_.2.2.2)))))))
 (.t (!r5_)
 (.l ((0 : Int), (false, (([] : Y1), (([] : List Y1), ([] : Y1))))))
 (.c (Bool) (wao r3_.2.1 r3_.2.2.1 r3_.2.2.2 (wrap .i64 (r3_.1 + 1))) fun r94_ =>
 .t (!r94_)
 (.l ((0 : Int), (false, (([] : Y1), (([] : List Y1), ([] : Y1))))))
 (.l ((wrap .i64 (r3_.1 + 1)), (true, (r3_.2.1, (r3_.2.2.1, r3_.2.2.2))))))))
 (.t (a5_ == 10)
 (.c (Int × Yak) (F_zw a1_ a2_ a3_) fun r95_ =>
 .t (!r95_.2.1)
 (.l ((0 : Int), (false, (([] : Y1), (([] : List Y1), ([] : Y1))))))
 (.c (Bool) (wao r3_.2.1 r3_.2.2.1 r95_.2.2 (wrap .i64 (r3_.1 + 1))) fun r96_ =>
 .t (!r96_)
 (.l ((0 : Int), (false, (([] : Y1), (([] : List Y1), ([] : Y1))))))
 (.l ((wrap .i64 (r3_.1 + 1)), (true, (r3_.2.1, (r3_.2.2.1, r95_.2.2)))))))
 (.t (a5_ == 11)
 (.c Yak (F_ze a1_ a2_) fun r97_ =>
 .t (!r97_.1)
 (.l ((0 : Int), (false, (([] : Y1), (([] : List Y1), ([] : Y1))))))
 (.c (Bool) (wao r3_.2.1 r3_.2.2.1 r97_.2 (wrap .i64 (r3_.1 + 1))) fun r98_ =>
 .t (!r98_)
 (.l ((0 : Int), (false, (([] : Y1), (([] : List Y1), ([] : Y1))))))
 (.l ((wrap .i64 (r3_.1 + 1)), (true, (r3_.2.1, (r3_.2.2.1, r97_.2)))))))
 (.l ((0 : Int), (false, (([] : Y1), (([] : List Y1), ([] : Y1))))))))))))))))))
noncomputable def F_zg (a1_ : Y1) (a2_ : List Y1) (a3_ : Y1) (a4_ : Int) (a5_ : Int) (a6_ : Int) (a7_ : Int) (a8_ : Int) (a9_ : Y1) : Option Yt := (T_zg a1_ a2_ a3_ a4_ a5_ a6_ a7_ a8_ a9_).ev
noncomputable def K_zg : RetK := { acts := [.ownB 4 0 5 3 yi, .ownRB 4 1 7 24 3 yi, .ownB 4 2 8 3 yi, .ren 1859 5, .ren 13888 5, .pinB 4 1 7, .pinB 4 2 8], res := [.cell 4 68, .tmp 5], sh := (yj [.agg (yj [.arr 5, .arr 7, .arr 8, .dat yi]), .dat .bool]), obs := [(5, .arr 3 yi), (7, .rows 24 3 yi), (8, .arr 3 yi)], pins := [] }
noncomputable def D_zg : FD := yd (yj [.agg Zj, .agg Zr]) [] [] Yt (fun x => F_zg x.1.1.1 x.1.1.2.1 x.1.1.2.2.1 x.1.1.2.2.2.1 x.1.2.1.1 x.1.2.1.2.1 x.1.2.1.2.2.1 x.1.2.1.2.2.2.1 x.1.2.1.2.2.2.2.1) (fun r => ([.agg [.arr 5, .arr 7, .arr 8, .dat yi r.1], .dat .bool r.2.1], [(5, .arr 3 yi r.2.2.1), (7, .rows 24 3 yi r.2.2.2.1 none), (8, .arr 3 yi r.2.2.2.2)]))
def Z_zg : Nat → Nat → List Nat := fun r i => match look [(48, [(0, [2000016]), (10, [5500016])])] r with
 | some l => (look l i).getD []
 | none => []
noncomputable def E_zg : Env := envOf [(65, D_zt), (139, D_zi), (140, D_zd), (141, D_zz), (104, wcj), (142, D_zh), (143, whv), (144, wgc), (145, wlu), (146, whs), (147, wabo), (148, wabq), (77, D_zw), (149, D_ze)]
noncomputable def O_zg : List (Nat × LD) := [(1, wacu), (3, wjb), (5, wjc)]
noncomputable def C_zg : Code := (f45.body).getD .skip
noncomputable def wbp (k : (List Yd) × ((List Yd) × Yq)) (v : Int × Yh) : Tr ((Int × Yh) ⊕ (Yh ⊕ (Int × Yh))) :=
 .t (decide (v.1 < k.2.2.1))
 (.g (inR v.1 (length k.2.1)) <|
 .c Yt (F_zg v.2.2.1 v.2.2.2.1 v.2.2.2.2 v.2.1 ((getD k.2.1 (toNat v.1) ((0 : Int), ((0 : Int), ((0 : Int), ((0 : Int), ([] : Y1)))))).1) ((getD k.2.1 (toNat v.1) ((0 : Int), ((0 : Int), ((0 : Int), ((0 : Int), ([] : Y1)))))).2.1) ((getD k.2.1 (toNat v.1) ((0 : Int), ((0 : Int), ((0 : Int), ((0 : Int), ([] : Y1)))))).2.2.1) ((getD k.2.1 (toNat v.1) ((0 : Int), ((0 : Int), ((0 : Int), ((0 : Int), ([] : Y1)))))).2.2.2.1) ((getD k.2.1 (toNat v.1) ((0 : Int), ((0 : Int), ((0 : Int), ((0 : Int), ([] : Y1)))))).2.2.2.2)) fun r42_ =>
 .t (!r42_.2.1)
 (.l (.inr (.inr (v.1, (v.2.1, (v.2.2.1, (v.2.2.2.1, v.2.2.2.2)))))))
 (.l (.inl ((wrap .i64 (v.1 + 1)), (r42_.1, (r42_.2.2.1, (r42_.2.2.2.1, r42_.2.2.2.2)))))))
 (.l (.inr (.inl (v.2.1, (v.2.2.1, (v.2.2.2.1, v.2.2.2.2))))))
noncomputable def wcw (k : (List Yd) × ((List Yd) × Yq)) (v : Int × Yh) : Option (Yh ⊕ (Int × Yh)) := iter (fun v => (wbp k v).ev) v
noncomputable def wjd : LD := ⟨{ acts := [.repB 7 0 900670, .repB 7 1 900671, .repB 7 2 900672], S := { slots := [1, 4, 7, 18, 19, 20], sh := (yj [.dat (.slice (.pair yi (.pair yi (.pair yi (.pair yi y1))))), .box 4 0, .box 7 0, .dat (.slice (.pair yi (.pair yi (.pair yi (.pair yi y1))))), .dat yi, .dat yi]), obs := [Zk, (7, .cells Zaj), (900670, .arr 3 yi), (900671, .rows 24 3 yi), (900672, .arr 3 yi)] } }, [(0, { acts := [], S := { slots := [1, 4, 7], sh := (yj [.dat (.slice (.pair yi (.pair yi (.pair yi (.pair yi y1))))), .box 4 0, .box 7 0]), obs := [Zk, (7, .cells Zaj), (900670, .arr 3 yi), (900671, .rows 24 3 yi), (900672, .arr 3 yi)] } })], { acts := [], S := { slots := [4, 5, 6], sh := (yj [.box 4 0, .dat yi, .dat .bool]), obs := [(4, .cells Zaj), (900670, .arr 3 yi), (900671, .rows 24 3 yi), (900672, .arr 3 yi)] } }, (List Yd) × ((List Yd) × Yq), Int × Yh, Yh ⊕ (Int × Yh), fun k v => ((k.1, ((), ((), (k.2.1, (k.2.2.1, (v.1, ())))))), (((), ((), ((), (k.2.2.2, ())))), (((), ((), ((), (v.2.1, ())))), (v.2.2.1, (v.2.2.2.1, (v.2.2.2.2, ())))))), fun t => (t.1.1, (t.1.2.2.2.1, (t.1.2.2.2.2.1, t.2.1.2.2.2.1))), fun t => (t.1.2.2.2.2.2.1, (t.2.2.1.2.2.2.1, (t.2.2.2.1, (t.2.2.2.2.1, t.2.2.2.2.2.1)))), wbp, fun k r => .s Yh (Int × Yh) r (fun a => .l (.exit 0 (mkSt ({ slots := [1, 4, 7], sh := (yj [.dat (.slice (.pair yi (.pair yi (.pair yi (.pair yi y1))))), .box 4 0, .box 7 0]), obs := [Zk, (7, .cells Zaj), (900670, .arr 3 yi), (900671, .rows 24 3 yi), (900672, .arr 3 yi)] }) ((k.1, ((), ((), ()))), (((), ((), ((), (k.2.2.2, ())))), (((), ((), ((), (a.1, ())))), (a.2.1, (a.2.2.1, (a.2.2.2, ()))))))))) (fun b => .l (.ret (mkSt ({ slots := [4, 5, 6], sh := (yj [.box 4 0, .dat yi, .dat .bool]), obs := [(4, .cells Zaj), (900670, .arr 3 yi), (900671, .rows 24 3 yi), (900672, .arr 3 yi)] }) (((), (b.1, (true, ()))), (((), ((), ((), (b.2.1, ())))), (b.2.2.1, (b.2.2.2.1, (b.2.2.2.2, ()))))))))⟩
noncomputable def T_zf (a1_ : Y1) (a2_ : List Y1) (a3_ : Y1) (a4_ : Int) (a5_ : List Yd) : Tr (Int × Yt) :=
 .c (Bool) (wao a1_ a2_ a3_ a4_) fun r1_ =>
 .t (!r1_)
 (.l ((0 : Int), ((0 : Int), (false, (([] : Y1), (([] : List Y1), ([] : Y1)))))))
 (.c Yh (F_zd a1_ a2_ a3_ a4_) fun r2_ =>
 .c (Yh ⊕ (Int × Yh)) (wcw (a5_, (a5_, (((length a5_ : Nat) : Int), (0 : Int)))) ((0 : Int), (r2_.1, (r2_.2.1, (r2_.2.2.1, r2_.2.2.2))))) fun r55_ =>
 .s Yh (Int × Yh) r55_
 (fun r56_ => .l (r56_.1, (((length a5_ : Nat) : Int), (true, (r56_.2.1, (r56_.2.2.1, r56_.2.2.2))))))
 (fun r57_ => .l (r57_.2.1, (r57_.1, (true, (r57_.2.2.1, (r57_.2.2.2.1, r57_.2.2.2.2)))))))
noncomputable def F_zf (a1_ : Y1) (a2_ : List Y1) (a3_ : Y1) (a4_ : Int) (a5_ : List Yd) : Option (Int × Yt) := (T_zf a1_ a2_ a3_ a4_ a5_).ev
noncomputable def K_zf : RetK := { acts := [.ownB 4 0 3 3 yi, .ownRB 4 1 5 24 3 yi, .ownB 4 2 6 3 yi, .ren 900670 3, .ren 900671 5, .ren 900672 6], res := [.cell 4 68, .tmp 5, .tmp 6], sh := (yj [.agg (yj [.arr 3, .arr 5, .arr 6, .dat yi]), .dat yi, .dat .bool]), obs := [(3, .arr 3 yi), (5, .rows 24 3 yi), (6, .arr 3 yi)], pins := [] }
noncomputable def D_zf : FD := yd (yj [.agg Zj, .dat (.slice (.pair yi (.pair yi (.pair yi (.pair yi y1)))))]) [] [] (Int × Yt) (fun x => F_zf x.1.1.1 x.1.1.2.1 x.1.1.2.2.1 x.1.1.2.2.2.1 x.1.2.1) (fun r => ([.agg [.arr 3, .arr 5, .arr 6, .dat yi r.1], .dat yi r.2.1, .dat .bool r.2.2.1], [(3, .arr 3 yi r.2.2.2.1), (5, .rows 24 3 yi r.2.2.2.2.1 none), (6, .arr 3 yi r.2.2.2.2.2)]))
noncomputable def E_zf : Env := envOf [(65, D_zt), (140, D_zd), (45, D_zg)]
noncomputable def O_zf : List (Nat × LD) := [(0, wjd)]
noncomputable def C_zf : Code := (f54.body).getD .skip
noncomputable def wbq (k : Y1 × Y1) (v : Int) : Tr ((Int) ⊕ ((Unit) ⊕ (Unit))) :=
 .t (decide (v < ((length k.1 : Nat) : Int)))
 (.g (inR v (length k.1)) <|
 .g (inR v (length k.2)) <|
 .t ((getD k.1 (toNat v) 0) != (getD k.2 (toNat v) 0))
 (.l (.inr (.inr ())))
 (.l (.inl (wrap .i64 (v + 1)))))
 (.l (.inr (.inl ())))
noncomputable def wje (k : Y1 × Y1) (v : Int) : Option ((Unit) ⊕ (Unit)) := iter (fun v => (wbq k v).ev) v
noncomputable def wfi : LD := ⟨(yh [0, 1, 5] (yj [.dat y1, .dat y1, .dat yi])), [(0, (yh [] .nil))], (yh [4] Zl), Y1 × Y1, Int, (Unit) ⊕ (Unit), fun k v => ((k.1, (k.2, (v, ()))), ()), fun t => (t.1.1, t.1.2.1), fun t => t.1.2.2.1, wbq, fun _ r => .s (Unit) (Unit) r (fun _ => .l (.exit 0 (mkSt ((ys [] .nil)) ((), ())))) (fun _ => .l (.ret (mkSt ((ys [4] Zl)) ((false, ()), ()))))⟩
noncomputable def wwu (a1_ : Y1) (a2_ : Y1) : Tr (Bool) :=
 .t (((length a1_ : Nat) : Int) != ((length a2_ : Nat) : Int))
 (.l false)
 (.c ((Unit) ⊕ (Unit)) (wje (a1_, a2_) (0 : Int)) fun r5_ =>
 .s (Unit) (Unit) r5_
 (fun _ => .l true)
 (fun _ => .l false))
noncomputable def wdk (a1_ : Y1) (a2_ : Y1) : Option (Bool) := (wwu a1_ a2_).ev
noncomputable def wamq : RetK := yr [.tmp 4] Zl
noncomputable def wgd : FD := yd (yj [.dat y1, .dat y1]) [] [] Bool (fun x => wdk x.1.1 x.1.2.1) (fun r => ([.dat .bool r], []))
noncomputable def wwv : Env := envOf []
noncomputable def www : List (Nat × LD) := [(0, wfi)]
noncomputable def wwx : Code := (f151.body).getD .skip
noncomputable def wbr (k : Y2 × Y2) (v : Int) : Tr ((Int) ⊕ ((Unit) ⊕ (Unit))) :=
 .t (decide (v < ((length k.1 : Nat) : Int)))
 (.g (inR v (length k.1)) <|
 .g (inR v (length k.2)) <|
 .c (Bool) (wdk (getD k.1 (toNat v) ([] : Y1)) (getD k.2 (toNat v) ([] : Y1))) fun r4_ =>
 .t (!r4_)
 (.l (.inr (.inr ())))
 (.l (.inl (wrap .i64 (v + 1)))))
 (.l (.inr (.inl ())))
noncomputable def wjf (k : Y2 × Y2) (v : Int) : Option ((Unit) ⊕ (Unit)) := iter (fun v => (wbr k v).ev) v
noncomputable def wfj : LD := ⟨(yh [0, 1, 5] (yj [.dat y2, .dat y2, .dat yi])), [(0, (yh [] .nil))], (yh [4] Zl), Y2 × Y2, Int, (Unit) ⊕ (Unit), fun k v => ((k.1, (k.2, (v, ()))), ()), fun t => (t.1.1, t.1.2.1), fun t => t.1.2.2.1, wbr, fun _ r => .s (Unit) (Unit) r (fun _ => .l (.exit 0 (mkSt ((ys [] .nil)) ((), ())))) (fun _ => .l (.ret (mkSt ((ys [4] Zl)) ((false, ()), ()))))⟩
noncomputable def wwy (a1_ : List Y1) (a2_ : List Y1) : Tr (Bool) :=
 .t (((length a1_ : Nat) : Int) != ((length a2_ : Nat) : Int))
 (.l false)
 (.c ((Unit) ⊕ (Unit)) (wjf (a1_, a2_) (0 : Int)) fun r6_ =>
 .s (Unit) (Unit) r6_
 (fun _ => .l true)
 (fun _ => .l false))
noncomputable def wmj (a1_ : List Y1) (a2_ : List Y1) : Option (Bool) := (wwy a1_ a2_).ev
noncomputable def wamr : RetK := yr [.tmp 4] Zl
noncomputable def wwz : FD := yd (yj [.dat y2, .dat y2]) [] [] Bool (fun x => wmj x.1.1 x.1.2.1) (fun r => ([.dat .bool r], []))
noncomputable def wxa : Env := envOf [(151, wgd)]
noncomputable def wxb : List (Nat × LD) := [(0, wfj)]
noncomputable def wxc : Code := (f215.body).getD .skip
noncomputable def wxd (a1_ : Y1) (a2_ : List Y1) (a3_ : Y1) (a4_ : List Y1) : Tr (Bool) :=
 .c (Bool) (wdk a1_ a3_) fun r1_ =>
 .t (!r1_)
 (.l false)
 (.c (Bool) (wmj a2_ a4_) fun r2_ =>
 .t (!r2_)
 (.l false)
 (.l true))
noncomputable def wmk (a1_ : Y1) (a2_ : List Y1) (a3_ : Y1) (a4_ : List Y1) : Option (Bool) := (wxd a1_ a2_ a3_ a4_).ev
noncomputable def wams : RetK := yr [.tmp 4] Zl
noncomputable def wxe : FD := yd (yj [.agg Ze, .agg Ze]) [] [] Bool (fun x => wmk x.1.1.1 x.1.1.2.1 x.1.2.1.1 x.1.2.1.2.1) (fun r => ([.dat .bool r], []))
noncomputable def wxf (a1_ : Y1) (a2_ : List Y1) (a3_ : Y1) (a4_ : Int) (a5_ : Y1) (a6_ : List Y1) (a7_ : Y1) (a8_ : Int) : Tr (Bool) :=
 .c (Bool) (wmk a1_ a2_ a5_ a6_) fun r1_ =>
 .t (!r1_)
 (.l false)
 (.c (Bool) (wdk a3_ a7_) fun r2_ =>
 .t (!r2_)
 (.l false)
 (.t (a4_ != a8_)
 (.l false)
 (.l true)))
noncomputable def wdl (a1_ : Y1) (a2_ : List Y1) (a3_ : Y1) (a4_ : Int) (a5_ : Y1) (a6_ : List Y1) (a7_ : Y1) (a8_ : Int) : Option (Bool) := (wxf a1_ a2_ a3_ a4_ a5_ a6_ a7_ a8_).ev
noncomputable def wamt : RetK := yr [.tmp 4] Zl
noncomputable def wxg : FD := yd (yj [.agg Zj, .agg Zj]) [] [] Bool (fun x => wdl x.1.1.1 x.1.1.2.1 x.1.1.2.2.1 x.1.1.2.2.2.1 x.1.2.1.1 x.1.2.1.2.1 x.1.2.1.2.2.1 x.1.2.1.2.2.2.1) (fun r => ([.dat .bool r], []))
noncomputable def wxh (a1_ : Int) (a2_ : Int) (a3_ : Int) (a4_ : Int) (a5_ : Y1) (a6_ : Int) (a7_ : Int) (a8_ : Int) (a9_ : Int) (a10_ : Y1) : Tr (Bool) :=
 .t (a1_ != a6_)
 (.l false)
 (.t (a2_ != a7_)
 (.l false)
 (.t (a3_ != a8_)
 (.l false)
 (.t (a4_ != a9_)
 (.l false)
 (.c (Bool) (wdk a5_ a10_) fun r1_ =>
 .t (!r1_)
 (.l false)
 (.l true)))))
noncomputable def wml (a1_ : Int) (a2_ : Int) (a3_ : Int) (a4_ : Int) (a5_ : Y1) (a6_ : Int) (a7_ : Int) (a8_ : Int) (a9_ : Int) (a10_ : Y1) : Option (Bool) := (wxh a1_ a2_ a3_ a4_ a5_ a6_ a7_ a8_ a9_ a10_).ev
noncomputable def wamu : RetK := yr [.tmp 4] Zl
noncomputable def wxi : FD := yd (yj [.agg Zr, .agg Zr]) [] [] Bool (fun x => wml x.1.1.1 x.1.1.2.1 x.1.1.2.2.1 x.1.1.2.2.2.1 x.1.1.2.2.2.2.1 x.1.2.1.1 x.1.2.1.2.1 x.1.2.1.2.2.1 x.1.2.1.2.2.2.1 x.1.2.1.2.2.2.2.1) (fun r => ([.dat .bool r], []))
noncomputable def wbs (k : (List Yd) × (List Yd)) (v : Int) : Tr ((Int) ⊕ ((Unit) ⊕ (Unit))) :=
 .t (decide (v < ((length k.1 : Nat) : Int)))
 (.g (inR v (length k.1)) <|
 .g (inR v (length k.2)) <|
 .c (Bool) (wml ((getD k.1 (toNat v) ((0 : Int), ((0 : Int), ((0 : Int), ((0 : Int), ([] : Y1)))))).1) ((getD k.1 (toNat v) ((0 : Int), ((0 : Int), ((0 : Int), ((0 : Int), ([] : Y1)))))).2.1) ((getD k.1 (toNat v) ((0 : Int), ((0 : Int), ((0 : Int), ((0 : Int), ([] : Y1)))))).2.2.1) ((getD k.1 (toNat v) ((0 : Int), ((0 : Int), ((0 : Int), ((0 : Int), ([] : Y1)))))).2.2.2.1) ((getD k.1 (toNat v) ((0 : Int), ((0 : Int), ((0 : Int), ((0 : Int), ([] : Y1)))))).2.2.2.2) ((getD k.2 (toNat v) ((0 : Int), ((0 : Int), ((0 : Int), ((0 : Int), ([] : Y1)))))).1) ((getD k.2 (toNat v) ((0 : Int), ((0 : Int), ((0 : Int), ((0 : Int), ([] : Y1)))))).2.1) ((getD k.2 (toNat v) ((0 : Int), ((0 : Int), ((0 : Int), ((0 : Int), ([] : Y1)))))).2.2.1) ((getD k.2 (toNat v) ((0 : Int), ((0 : Int), ((0 : Int), ((0 : Int), ([] : Y1)))))).2.2.2.1) ((getD k.2 (toNat v) ((0 : Int), ((0 : Int), ((0 : Int), ((0 : Int), ([] : Y1)))))).2.2.2.2)) fun r4_ =>
 .t (!r4_)
 (.l (.inr (.inr ())))
 (.l (.inl (wrap .i64 (v + 1)))))
 (.l (.inr (.inl ())))
noncomputable def wjg (k : (List Yd) × (List Yd)) (v : Int) : Option ((Unit) ⊕ (Unit)) := iter (fun v => (wbs k v).ev) v
noncomputable def wfk : LD := ⟨(yh [0, 1, 5] (yj [.dat (.slice (.pair yi (.pair yi (.pair yi (.pair yi y1))))), .dat (.slice (.pair yi (.pair yi (.pair yi (.pair yi y1))))), .dat yi])), [(0, (yh [] .nil))], (yh [4] Zl), (List Yd) × (List Yd), Int, (Unit) ⊕ (Unit), fun k v => ((k.1, (k.2, (v, ()))), ()), fun t => (t.1.1, t.1.2.1), fun t => t.1.2.2.1, wbs, fun _ r => .s (Unit) (Unit) r (fun _ => .l (.exit 0 (mkSt ((ys [] .nil)) ((), ())))) (fun _ => .l (.ret (mkSt ((ys [4] Zl)) ((false, ()), ()))))⟩
noncomputable def wxj (a1_ : List Yd) (a2_ : List Yd) : Tr (Bool) :=
 .t (((length a1_ : Nat) : Int) != ((length a2_ : Nat) : Int))
 (.l false)
 (.c ((Unit) ⊕ (Unit)) (wjg (a1_, a2_) (0 : Int)) fun r6_ =>
 .s (Unit) (Unit) r6_
 (fun _ => .l true)
 (fun _ => .l false))
noncomputable def wmm (a1_ : List Yd) (a2_ : List Yd) : Option (Bool) := (wxj a1_ a2_).ev
noncomputable def wamv : RetK := yr [.tmp 4] Zl
noncomputable def wxk : FD := yd (yj [.dat (.slice (.pair yi (.pair yi (.pair yi (.pair yi y1))))), .dat (.slice (.pair yi (.pair yi (.pair yi (.pair yi y1)))))]) [] [] Bool (fun x => wmm x.1.1 x.1.2.1) (fun r => ([.dat .bool r], []))
noncomputable def wxl : Env := envOf [(47, wxi)]
noncomputable def wxm : List (Nat × LD) := [(0, wfk)]
noncomputable def wxn : Code := (f55.body).getD .skip
noncomputable def wbt (_k : Unit) (v : Int × Yab) : Tr ((Int × Yab) ⊕ Yab) :=
 .t (decide (v.2.1 < ((length v.2.2 : Nat) : Int)))
 (.g (inR v.2.1 (length v.2.2)) <|
 .g (decide ((toNat v.2.1) < length v.2.2)) <|
 .l (.inl ((wrap .i64 (v.1 + 1)), ((wrap .i64 (v.2.1 + 1)), (set v.2.2 (toNat v.2.1) v.1)))))
 (.l (.inr (v.1, v.2.2)))
noncomputable def wjh (k : Unit) (v : Int × Yab) : Option Yab := iter (fun v => (wbt k v).ev) v
noncomputable def wfl : LD := ⟨{ acts := [], S := { slots := [0, 1, 5], sh := (yj [.arr 64, .dat yi, .dat yi]), obs := [(64, .arr 3 yi)] } }, [(0, { acts := [], S := { slots := [0, 1], sh := (yj [.arr 64, .dat yi]), obs := [(64, .arr 3 yi)] } })], (yh [] .nil), Unit, Int × Yab, Int × Y1, fun _ v => (((), (v.1, (v.2.1, ()))), (v.2.2, ())), fun _ => (), fun t => (t.1.2.1, (t.1.2.2.1, t.2.1)), wbt, fun _ r => .l (.exit 0 (mkSt ({ slots := [0, 1], sh := (yj [.arr 64, .dat yi]), obs := [(64, .arr 3 yi)] }) (((), (r.1, ())), (r.2, ()))))⟩
noncomputable def wxo (a2_ : Int) (a1_ : Y1) : Tr Yab :=
 .c Yab (wjh () (a2_, ((0 : Int), a1_))) fun r6_ =>
 .l (r6_.1, r6_.2)
noncomputable def wge (a2_ : Int) (a1_ : Y1) : Option Yab := (wxo a2_ a1_).ev
noncomputable def wamw : RetK := { acts := [], res := [.tmp 4], sh := Zg, obs := [(64, .arr 3 yi)], pins := [(0, 0, 64)] }
noncomputable def wji : FD := yd (yj [.arr 64, .dat yi]) [(64, .arr 3 yi)] [.arg 0] Yab (fun x => wge x.1.2.1 x.2.1) (fun r => ([.dat yi r.1], [(64, .arr 3 yi r.2)]))
noncomputable def wxp : Env := envOf []
noncomputable def wxq : List (Nat × LD) := [(0, wfl)]
noncomputable def wxr : Code := (f153.body).getD .skip
noncomputable def wbu (_k : Unit) (v : Int × Yam) : Tr ((Int × Yam) ⊕ Yam) :=
 .t (decide (v.2.1 < ((length v.2.2 : Nat) : Int)))
 (.g (inR v.2.1 (length v.2.2)) <|
 .g (decide ((toNat v.2.1) < length v.2.2)) <|
 .c Yab (wge v.1 (getD v.2.2 (toNat v.2.1) ([] : Y1))) fun r4_ =>
 .l (.inl (r4_.1, ((wrap .i64 (v.2.1 + 1)), (set v.2.2 (toNat v.2.1) r4_.2)))))
 (.l (.inr (v.1, v.2.2)))
noncomputable def wjj (k : Unit) (v : Int × Yam) : Option Yam := iter (fun v => (wbu k v).ev) v
noncomputable def wfm : LD := ⟨{ acts := [.fz 500015], S := { slots := [0, 1, 5], sh := (yj [.arr 64, .dat yi, .dat yi]), obs := [(64, .rows 24 3 yi)] } }, [(0, { acts := [], S := { slots := [0, 1], sh := (yj [.arr 64, .dat yi]), obs := [(64, .rows 24 3 yi)] } })], (yh [] .nil), Unit, Int × Yam, Int × Y2, fun _ v => (((), (v.1, (v.2.1, ()))), (v.2.2, ())), fun _ => (), fun t => (t.1.2.1, (t.1.2.2.1, t.2.1)), wbu, fun _ r => .l (.exit 0 (mkSt ({ slots := [0, 1], sh := (yj [.arr 64, .dat yi]), obs := [(64, .rows 24 3 yi)] }) (((), (r.1, ())), (r.2, ()))))⟩
noncomputable def wxs (a2_ : Int) (a1_ : List Y1) : Tr Yam :=
 .c Yam (wjj () (a2_, ((0 : Int), a1_))) fun r7_ =>
 .l (r7_.1, r7_.2)
noncomputable def wmn (a2_ : Int) (a1_ : List Y1) : Option Yam := (wxs a2_ a1_).ev
noncomputable def wamx : RetK := { acts := [], res := [.tmp 4], sh := Zg, obs := [(64, .rows 24 3 yi)], pins := [(0, 0, 64)] }
noncomputable def wxt : FD := yd (yj [.arr 64, .dat yi]) [(64, .rows 24 3 yi)] [.arg 0] Yam (fun x => wmn x.1.2.1 x.2.1) (fun r => ([.dat yi r.1], [(64, .rows 24 3 yi r.2 none)]))
noncomputable def wxu : Nat → Nat → List Nat := fun r i => match look [(4, [(5, [2000015])])] r with
 | some l => (look l i).getD []
 | none => []
noncomputable def wxv : Env := envOf [(153, wji)]
noncomputable def wxw : List (Nat × LD) := [(0, wfm)]
noncomputable def wxx : Code := (f216.body).getD .skip
noncomputable def wxy (a3_ : Int) (a1_ : Y1) (a2_ : List Y1) : Tr (Int × Yv) :=
 .c Yab (wge a3_ a1_) fun r1_ =>
 .c Yam (wmn r1_.1 a2_) fun r2_ =>
 .l (r2_.1, (r1_.2, r2_.2))
noncomputable def wmo (a3_ : Int) (a1_ : Y1) (a2_ : List Y1) : Option (Int × Yv) := (wxy a3_ a1_ a2_).ev
noncomputable def wamy : RetK := { acts := [], res := [.tmp 4], sh := Zg, obs := [(64, .arr 3 yi), (65, .rows 24 3 yi)], pins := [(0, 1, 64), (0, 2, 65)] }
noncomputable def wxz : FD := yd (yj [.agg (yj [.arr 64, .arr 65]), .dat yi]) [(64, .arr 3 yi), (65, .rows 24 3 yi)] [.comp 0 0, .comp 0 1] (Int × Yv) (fun x => wmo x.1.2.1 x.2.1 x.2.2.1) (fun r => ([.dat yi r.1], [(64, .arr 3 yi r.2.1), (65, .rows 24 3 yi r.2.2 none)]))
noncomputable def wya (_a4_ : Int) (a5_ : Int) (a1_ : Y1) (a2_ : List Y1) (a3_ : Y1) : Tr Yh :=
 .c (Int × Yv) (wmo a5_ a1_ a2_) fun r1_ =>
 .c Yab (wge r1_.1 a3_) fun r2_ =>
 .l (r2_.1, (r1_.2.1, (r1_.2.2, r2_.2)))
noncomputable def wjk (a4_ : Int) (a5_ : Int) (a1_ : Y1) (a2_ : List Y1) (a3_ : Y1) : Option Yh := (wya a4_ a5_ a1_ a2_ a3_).ev
noncomputable def wamz : RetK := { acts := [], res := [.tmp 4], sh := Zg, obs := [(64, .arr 3 yi), (65, .rows 24 3 yi), (66, .arr 3 yi)], pins := [(0, 1, 64), (0, 2, 65), (0, 3, 66)] }
noncomputable def wyb : FD := yd (yj [.agg (yj [.arr 64, .arr 65, .arr 66, .dat yi]), .dat yi]) [(64, .arr 3 yi), (65, .rows 24 3 yi), (66, .arr 3 yi)] [.comp 0 0, .comp 0 1, .comp 0 2] Yh (fun x => wjk x.1.1.2.2.2.1 x.1.2.1 x.2.1 x.2.2.1 x.2.2.2.1) (fun r => ([.dat yi r.1], [(64, .arr 3 yi r.2.1), (65, .rows 24 3 yi r.2.2.1 none), (66, .arr 3 yi r.2.2.2)]))
noncomputable def wyc (a2_ : Int) (a1_ : List Yd) : Option (Int) := markESF a2_ a1_
noncomputable def wada : FD := fdMarkES
noncomputable def wbv (k : Y1) (v : Int × Int) : Tr (Yq ⊕ ((Int) ⊕ (Unit))) :=
 .t (decide (v.2 < ((length k : Nat) : Int)))
 (.g (inR v.2 (length k)) <|
 .t ((getD k (toNat v.2) 0) != v.1)
 (.l (.inr (.inr ())))
 (.l (.inl ((wrap .i64 (v.1 + 1)), (wrap .i64 (v.2 + 1))))))
 (.l (.inr (.inl v.1)))
noncomputable def wjl (k : Y1) (v : Int × Int) : Option ((Int) ⊕ (Unit)) := iter (fun v => (wbv k v).ev) v
noncomputable def wfn : LD := ⟨(yh [0, 1, 5] Zae), [(0, (yh [1] Zg))], (yh [4] Zg), Y1, Int × (Int), (Int) ⊕ (Unit), fun k v => ((k, (v.1, (v.2, ()))), ()), fun t => t.1.1, fun t => (t.1.2.1, t.1.2.2.1), wbv, fun _ r => .s (Int) (Unit) r (fun a => .l (.exit 0 (mkSt ((ys [1] Zg)) ((a, ()), ())))) (fun _ => .l (.ret (mkSt ((ys [4] Zg)) (((-1 : Int), ()), ()))))⟩
noncomputable def wyd (a1_ : Y1) (a2_ : Int) : Tr (Int) :=
 .c ((Int) ⊕ (Unit)) (wjl a1_ (a2_, (0 : Int))) fun r6_ =>
 .s (Int) (Unit) r6_
 (fun r7_ => .l r7_)
 (fun _ => .l (-1 : Int))
noncomputable def wgf (a1_ : Y1) (a2_ : Int) : Option (Int) := (wyd a1_ a2_).ev
noncomputable def wana : RetK := yr [.tmp 4] Zg
noncomputable def wjm : FD := yd (yj [.dat y1, .dat yi]) [] [] Int (fun x => wgf x.1.1 x.1.2.1) (fun r => ([.dat yi r], []))
noncomputable def wye : Env := envOf []
noncomputable def wyf : List (Nat × LD) := [(0, wfn)]
noncomputable def wyg : Code := (f155.body).getD .skip
noncomputable def wbw (k : List Y1) (v : Int × Int) : Tr (Yq ⊕ ((Int) ⊕ (Unit))) :=
 .t (decide (v.2 < ((length k : Nat) : Int)))
 (.g (inR v.2 (length k)) <|
 .c (Int) (wgf (getD k (toNat v.2) ([] : Y1)) v.1) fun r4_ =>
 .t (decide (r4_ < 0))
 (.l (.inr (.inr ())))
 (.l (.inl (r4_, (wrap .i64 (v.2 + 1))))))
 (.l (.inr (.inl v.1)))
noncomputable def wjn (k : List Y1) (v : Int × Int) : Option ((Int) ⊕ (Unit)) := iter (fun v => (wbw k v).ev) v
noncomputable def wfo : LD := ⟨(yh [0, 1, 5] (yj [.dat y2, .dat yi, .dat yi])), [(0, (yh [1] Zg))], (yh [4] Zg), List Y1, Int × (Int), (Int) ⊕ (Unit), fun k v => ((k, (v.1, (v.2, ()))), ()), fun t => t.1.1, fun t => (t.1.2.1, t.1.2.2.1), wbw, fun _ r => .s (Int) (Unit) r (fun a => .l (.exit 0 (mkSt ((ys [1] Zg)) ((a, ()), ())))) (fun _ => .l (.ret (mkSt ((ys [4] Zg)) (((-1 : Int), ()), ()))))⟩
noncomputable def wyh (a1_ : List Y1) (a2_ : Int) : Tr (Int) :=
 .c ((Int) ⊕ (Unit)) (wjn a1_ (a2_, (0 : Int))) fun r7_ =>
 .s (Int) (Unit) r7_
 (fun r8_ => .l r8_)
 (fun _ => .l (-1 : Int))
noncomputable def wmp (a1_ : List Y1) (a2_ : Int) : Option (Int) := (wyh a1_ a2_).ev
noncomputable def wanb : RetK := yr [.tmp 4] Zg
noncomputable def wyi : FD := yd (yj [.dat y2, .dat yi]) [] [] Int (fun x => wmp x.1.1 x.1.2.1) (fun r => ([.dat yi r], []))
noncomputable def wyj : Env := envOf [(155, wjm)]
noncomputable def wyk : List (Nat × LD) := [(0, wfo)]
noncomputable def wyl : Code := (f217.body).getD .skip
noncomputable def wym (a1_ : Y1) (a2_ : List Y1) (a3_ : Int) : Tr (Int) :=
 .c (Int) (wgf a1_ a3_) fun r1_ =>
 .t (decide (r1_ < 0))
 (.l (-1 : Int))
 (.c (Int) (wmp a2_ r1_) fun r2_ =>
 .t (decide (r2_ < 0))
 (.l (-1 : Int))
 (.l r2_))
noncomputable def wmq (a1_ : Y1) (a2_ : List Y1) (a3_ : Int) : Option (Int) := (wym a1_ a2_ a3_).ev
noncomputable def wanc : RetK := yr [.tmp 4] Zg
noncomputable def wyn : FD := yd (yj [.agg Ze, .dat yi]) [] [] Int (fun x => wmq x.1.1.1 x.1.1.2.1 x.1.2.1) (fun r => ([.dat yi r], []))
noncomputable def wyo (a1_ : Y1) (a2_ : List Y1) (a3_ : Y1) (_a4_ : Int) (a5_ : Int) : Tr (Int) :=
 .c (Int) (wmq a1_ a2_ a5_) fun r1_ =>
 .t (decide (r1_ < 0))
 (.l (-1 : Int))
 (.c (Int) (wgf a3_ r1_) fun r2_ =>
 .t (decide (r2_ < 0))
 (.l (-1 : Int))
 (.l r2_))
noncomputable def wjo (a1_ : Y1) (a2_ : List Y1) (a3_ : Y1) (a4_ : Int) (a5_ : Int) : Option (Int) := (wyo a1_ a2_ a3_ a4_ a5_).ev
noncomputable def wand : RetK := yr [.tmp 4] Zg
noncomputable def wyp : FD := yd (yj [.agg Zj, .dat yi]) [] [] Int (fun x => wjo x.1.1.1 x.1.1.2.1 x.1.1.2.2.1 x.1.1.2.2.2.1 x.1.2.1) (fun r => ([.dat yi r], []))
noncomputable def wyq (a1_ : Y1) (a2_ : List Y1) (a3_ : Y1) (a4_ : Int) (a5_ : List Yd) : Tr (Bool) :=
 .c (Int) (wjx a1_ a2_ a3_ a4_ (1048576 : Int)) fun r1_ =>
 .t (decide (r1_ < 0))
 (.l true)
 (.c (Int) (wjz a5_ r1_) fun r2_ =>
 .t (decide (r2_ < 0))
 (.l true)
 (.c Yh (wda a1_ a2_ a3_ a4_) fun r3_ =>
 .c (List Yd) (wdb a5_) fun r4_ =>
 .c (Y1 × (Y2 × (Y1 × (Int × (Int × (Bool)))))) (wgb r3_.2.1 r3_.2.2.1 r3_.2.2.2 r3_.1 r4_) fun r5_ =>
 .c Yh (wda a1_ a2_ a3_ a4_) fun r6_ =>
 .c (List Yd) (wdb a5_) fun r7_ =>
 .c (Int × Yt) (F_zf r6_.2.1 r6_.2.2.1 r6_.2.2.2 r6_.1 r7_) fun r8_ =>
 .c (Bool) (wdl r8_.2.2.2.1 r8_.2.2.2.2.1 r8_.2.2.2.2.2 r8_.1 r5_.1 r5_.2.1 r5_.2.2.1 r5_.2.2.2.1) fun r9_ =>
 .t (!r9_)
 (.l false)
 (.t (r8_.2.1 != r5_.2.2.2.2.1)
 (.l false)
 (.t (!(r8_.2.2.1 == r5_.2.2.2.2.2))
 (.l false)
 (.c Yh (wda a1_ a2_ a3_ a4_) fun r10_ =>
 .c (Bool) (wdl r6_.2.1 r6_.2.2.1 r6_.2.2.2 r6_.1 r10_.2.1 r10_.2.2.1 r10_.2.2.2 r10_.1) fun r11_ =>
 .t (!r11_)
 (.l false)
 (.c (List Yd) (wdb a5_) fun r12_ =>
 .c (Bool) (wmm r7_ r12_) fun r13_ =>
 .t (!r13_)
 (.l false)
 (.c Yh (wjk r6_.1 (1 : Int) r6_.2.1 r6_.2.2.1 r6_.2.2.2) fun r14_ =>
 .c (Int) (wyc r14_.1 r7_) fun r15_ =>
 .t (decide (r15_ < 0))
 (.l false)
 (.c (Bool) (wdl r8_.2.2.2.1 r8_.2.2.2.2.1 r8_.2.2.2.2.2 r8_.1 r5_.1 r5_.2.1 r5_.2.2.1 r5_.2.2.2.1) fun r16_ =>
 .t (!r16_)
 (.l false)
 (.t (r8_.2.1 != r5_.2.2.2.2.1)
 (.l false)
 (.t (!(r8_.2.2.1 == r5_.2.2.2.2.2))
 (.l false)
 (.c Yh (wjk r8_.1 (1 : Int) r8_.2.2.2.1 r8_.2.2.2.2.1 r8_.2.2.2.2.2) fun r17_ =>
 .c (Int) (wjo r17_.2.1 r17_.2.2.1 r17_.2.2.2 r8_.1 (1 : Int)) fun r18_ =>
 .t (decide (r18_ < 0))
 (.l false)
 (.t (r18_ != r17_.1)
 (.l false)
 (.c Yh (wda a1_ a2_ a3_ a4_) fun r19_ =>
 .c (List Yd) (wdb a5_) fun r20_ =>
 .c (Int × Yt) (F_zf r19_.2.1 r19_.2.2.1 r19_.2.2.2 r19_.1 r20_) fun r21_ =>
 .c (Bool) (wdl r21_.2.2.2.1 r21_.2.2.2.2.1 r21_.2.2.2.2.2 r21_.1 r5_.1 r5_.2.1 r5_.2.2.1 r5_.2.2.2.1) fun r22_ =>
 .t (!r22_)
 (.l false)
 (.t (r21_.2.1 != r5_.2.2.2.2.1)
 (.l false)
 (.t (!(r21_.2.2.1 == r5_.2.2.2.2.2))
 (.l false)
 (.c (Int) (wjo r17_.2.1 r17_.2.2.1 r17_.2.2.2 r8_.1 (1 : Int)) fun r23_ =>
 .t (decide (r23_ < 0))
 (.l false)
 (.t (r23_ != r17_.1)
 (.l false)
 (.l true))))))))))))))))))
noncomputable def wyr (a1_ : Y1) (a2_ : List Y1) (a3_ : Y1) (a4_ : Int) (a5_ : List Yd) : Option (Bool) := (wyq a1_ a2_ a3_ a4_ a5_).ev
noncomputable def wane : RetK := yr [.tmp 4] Zl
noncomputable def wys : FD := yd (yj [.agg Zj, .dat (.slice (.pair yi (.pair yi (.pair yi (.pair yi y1)))))]) [] [] Bool (fun x => wyr x.1.1.1 x.1.1.2.1 x.1.1.2.2.1 x.1.1.2.2.2.1 x.1.2.1) (fun r => ([.dat .bool r], []))
noncomputable def wanf : Nat → Nat → List Nat := fun r i => match look [(8, [(4, [32, 34])])] r with
 | some l => (look l i).getD []
 | none => []
end Go.Proofs.YtnagpmhaddfgmaaGreat
