/-
 Descriptions of the functions that the claim reaches: arguments, results, states of loops. No conditions.
-/
import Derived.Test.YtnagpmhaddfgmaaB51
import Derived.Test.YtnagpmhaddfgmaaProg
namespace Go.Proofs.Ytnagpmhaddfgmaa
open Go.Proofs.Try
open List (length getD set)
open Int (toNat)
open IntKind (wrap)
abbrev yi : Ty := .int .i64
abbrev y1 : Ty := .slice yi
abbrev y2 : Ty := .slice y1
abbrev y3 : Ty := .slice y2
abbrev Y1 : Type := List Int
abbrev Y2 : Type := List Y1
abbrev Y3 : Type := List Y2
abbrev yh (l : List Nat) (s : Sh) : Keep := { acts := [], S := { slots := l, sh := s, obs := [] } }
abbrev ys (l : List Nat) (s : Sh) : SSh := { slots := l, sh := s, obs := [] }
abbrev yd (A : Sh) (I : List (Nat × OSh)) (L : List LP) (R : Type) (F : A.I × OL I → Option R) (e : R → List AV × List (Nat × Ob)) : FD := { A := A, ins := I, lend := L, R := R, F := F, emb := e }
abbrev yr (r : List ResultVar) (s : Sh) : RetK := { acts := [], res := r, sh := s, obs := [], pins := [] }
abbrev yj : List Sh → Sh
  | [] => .nil
  | a :: l => .cons a (yj l)
abbrev Za : List UInt8 := ([0, 1, 2, 2, 3, 3, 3, 3, 4, 4, 4, 4, 4, 4, 4, 4, 5, 5, 5, 5, 5, 5, 5, 5, 5, 5, 5, 5, 5, 5, 5, 5, 6, 6, 6, 6, 6, 6, 6, 6, 6, 6, 6, 6, 6, 6, 6, 6, 6, 6, 6, 6, 6, 6, 6, 6, 6, 6, 6, 6, 6, 6, 6, 6, 7, 7, 7, 7, 7, 7, 7, 7, 7, 7, 7, 7, 7, 7, 7, 7, 7, 7, 7, 7, 7, 7, 7, 7, 7, 7, 7, 7, 7, 7, 7, 7, 7, 7, 7, 7, 7, 7, 7, 7, 7, 7, 7, 7, 7, 7, 7, 7, 7, 7, 7, 7, 7, 7, 7, 7, 7, 7, 7, 7, 7, 7, 7, 7, 8, 8, 8, 8, 8, 8, 8, 8, 8, 8, 8, 8, 8, 8, 8, 8, 8, 8, 8, 8, 8, 8, 8, 8, 8, 8, 8, 8, 8, 8, 8, 8, 8, 8, 8, 8, 8, 8, 8, 8, 8, 8, 8, 8, 8, 8, 8, 8, 8, 8, 8, 8, 8, 8, 8, 8, 8, 8, 8, 8, 8, 8, 8, 8, 8, 8, 8, 8, 8, 8, 8, 8, 8, 8, 8, 8, 8, 8, 8, 8, 8, 8, 8, 8, 8, 8, 8, 8, 8, 8, 8, 8, 8, 8, 8, 8, 8, 8, 8, 8, 8, 8, 8, 8, 8, 8, 8, 8, 8, 8, 8, 8, 8, 8, 8, 8, 8, 8, 8, 8, 8, 8, 8, 8, 8, 8, 8, 8] : List UInt8)
abbrev Zb : Nat := IntKind.bits .u64
abbrev Yc : Type := Int × Int
abbrev Yd : Type := (List Nat) × Y2
abbrev Ye : Type := HL [y1, y1] → Option (Int)
abbrev Zf : Sh := yj [.dat yi]
abbrev Zg : Sh := yj [.dat y1, .dat y2]
abbrev Zh : Sh := yj [.arr 64, .dat yi, .clo [y1, y1] yi, .dat yi, .dat yi]
abbrev Zi : Nat × OSh := (64, .perm 22 3 yi)
abbrev Zj : Sh := yj [.dat .bool]
abbrev Yk : Type := (List Yc) × Y2
abbrev Yl : Type := Y1 × Y2
abbrev Zm : Sh := yj [.dat yi, .dat yi]
abbrev Zn : Sh := yj [.arr 64, .dat yi, .dat yi]
abbrev Yo : Type := Int × (Bool × Yd)
abbrev Yp : Type := (Ye) × (Int × Yd)
abbrev Zq : Sh := yj [.arr 64]
noncomputable def tabl : List (Nat × TD) := [(3, .sc yi), (4, .sc .bool), (5, .sc (.int .u8)), (9, .sc .str), (22, .sl 3 yi 8), (23, .sl 22 y1 24), (25, .st (.pair y1 y2) [(22, y1), (23, y2)]), (29, .st (.pair y1 y2) [(22, y1), (23, y2)]), (36, .sl 61 (.pair yi yi) 16), (61, .ar 2 3 yi (.pair yi yi)), (73, .sl 75 (.pair (.pair yi yi) .hdr) 40), (75, .st (.pair (.pair yi yi) .hdr) [(61, (.pair yi yi)), (22, .hdr)]), (81, .sc (.int .u64)), (91, .sc (.int .u64)), (136, .sc (.int .u64))]
noncomputable def tt : Nat → TD := fun i => match look tabl i with
 | some d => d
 | none => .no
noncomputable def wbgf : List (Nat × TD) := (23, .sl 22 .hdr 24) :: tabl
noncomputable def tt2 : Nat → TD := fun i => match look wbgf i with
 | some d => d
 | none => .no
noncomputable def T_zt (a1_ : Int) (a2_ : Int) : Tr (Bool) :=
 .g (decide (0 ≤ a2_)) <|
 .l ((wrap .u64 (BitVec.toNat ((BitVec.ofInt Zb (Int.fdiv a1_ (2 ^ (min (toNat a2_) Zb)))) &&& (BitVec.ofInt Zb (1 : Int))))) == (1 : Int))
noncomputable def F_zt (a1_ : Int) (a2_ : Int) : Option (Bool) := (T_zt a1_ a2_).ev
noncomputable def K_zt : RetK := yr [.tmp 4] Zj
noncomputable def D_zt : FD := yd (yj [.dat (.int .u64), .dat yi]) [] [] Bool (fun x => F_zt x.1.1 x.1.2.1) (fun r => ([.dat .bool r], []))
noncomputable def wamx (k : Int) (v : Int × Y1) : Tr ((Int × Y1) ⊕ Y1) :=
 .g (decide (0 ≤ v.1)) <|
 .t (decide ((0 : Int) < (Int.fdiv k (2 ^ (min (toNat v.1) Zb)))))
 (.c (Bool) (F_zt k v.1) fun r4_ =>
 .t r4_
 (.g (decide ((length v.2 + length ([v.1] : Y1)) * 8 ≤ 140737488355328)) <|
 .l (.inl ((wrap .i64 (v.1 + 1)), (v.2 ++ ([v.1] : Y1)))))
 (.l (.inl ((wrap .i64 (v.1 + 1)), v.2))))
 (.l (.inr v.2))
noncomputable def wbah (k : Int) (v : Int × Y1) : Option Y1 := iter (fun v => (wamx k v).ev) v
noncomputable def wadu : LD := ⟨{ acts := [], S := { slots := [0, 3, 4], sh := (yj [.dat (.int .u64), .arr 5, .dat yi]), obs := [(5, .arr 3 yi)] } }, [(0, { acts := [], S := { slots := [3], sh := (yj [.arr 5]), obs := [(5, .arr 3 yi)] } })], (yh [] .nil), Int, Int × Y1, Y1, fun k v => ((k, ((), (v.1, ()))), (v.2, ())), fun t => t.1.1, fun t => (t.1.2.2.1, t.2.1), wamx, fun _ r => .l (.exit 0 (wbj ({ slots := [3], sh := (yj [.arr 5]), obs := [(5, .arr 3 yi)] }) (((), ()), (r, ()))))⟩
noncomputable def T_zu (a1_ : Int) : Tr Y1 :=
 .c Y1 (wbah a1_ ((0 : Int), ([] : Y1))) fun r6_ =>
 .l r6_
noncomputable def F_zu (a1_ : Int) : Option Y1 := (T_zu a1_).ev
noncomputable def K_zu : RetK := { acts := [.ren 5 0], res := [.tmp 2], sh := (yj [.arr 0]), obs := [(0, .arr 3 yi)], pins := [] }
noncomputable def D_zu : FD := yd (yj [.dat (.int .u64)]) [] [] Y1 (fun x => F_zu x.1.1) (fun r => ([.arr 0], [(0, .arr 3 yi r)]))
noncomputable def E_zu : Env := waa [(110, D_zt)]
noncomputable def O_zu : List (Nat × LD) := [(0, wadu)]
noncomputable def C_zu : Code := (f90.body).getD .skip
noncomputable def wbai (a1_ : Int) : Tr (Int) :=
 .t (decide (4294967296 ≤ a1_))
 (.g (decide ((0 : Int) ≤ (32 : Int))) <|
 .t (decide ((65536 : Int) ≤ (Int.fdiv a1_ (2 ^ (min (toNat 32) Zb)))))
 (.g (decide ((0 : Int) ≤ (16 : Int))) <|
 .t (decide ((256 : Int) ≤ (Int.fdiv (Int.fdiv a1_ (2 ^ (min (toNat 32) Zb))) (2 ^ (min (toNat 16) Zb)))))
 (.g (decide ((0 : Int) ≤ (8 : Int))) <|
 .g (inR (wrap .u8 (Int.fdiv (Int.fdiv (Int.fdiv a1_ (2 ^ (min (toNat 32) Zb))) (2 ^ (min (toNat 16) Zb))) (2 ^ (min (toNat 8) Zb)))) (length Za)) <|
 .l (wrap .i64 ((wrap .i64 ((wrap .i64 ((32 : Int) + 16)) + 8)) + (wrap .i64 ((UInt8.toNat (getD Za (toNat (wrap .u8 (Int.fdiv (Int.fdiv (Int.fdiv a1_ (2 ^ (min (toNat 32) Zb))) (2 ^ (min (toNat 16) Zb))) (2 ^ (min (toNat 8) Zb))))) 0) : Nat) : Int)))))
 (.g (inR (wrap .u8 (Int.fdiv (Int.fdiv a1_ (2 ^ (min (toNat 32) Zb))) (2 ^ (min (toNat 16) Zb)))) (length Za)) <|
 .l (wrap .i64 ((wrap .i64 ((32 : Int) + 16)) + (wrap .i64 ((UInt8.toNat (getD Za (toNat (wrap .u8 (Int.fdiv (Int.fdiv a1_ (2 ^ (min (toNat 32) Zb))) (2 ^ (min (toNat 16) Zb))))) 0) : Nat) : Int))))))
 (.t (decide ((256 : Int) ≤ (Int.fdiv a1_ (2 ^ (min (toNat 32) Zb)))))
 (.g (decide ((0 : Int) ≤ (8 : Int))) <|
 .g (inR (wrap .u8 (Int.fdiv (Int.fdiv a1_ (2 ^ (min (toNat 32) Zb))) (2 ^ (min (toNat 8) Zb)))) (length Za)) <|
 .l (wrap .i64 ((wrap .i64 ((32 : Int) + 8)) + (wrap .i64 ((UInt8.toNat (getD Za (toNat (wrap .u8 (Int.fdiv (Int.fdiv a1_ (2 ^ (min (toNat 32) Zb))) (2 ^ (min (toNat 8) Zb))))) 0) : Nat) : Int)))))
 (.g (inR (wrap .u8 (Int.fdiv a1_ (2 ^ (min (toNat 32) Zb)))) (length Za)) <|
 .l (wrap .i64 ((32 : Int) + (wrap .i64 ((UInt8.toNat (getD Za (toNat (wrap .u8 (Int.fdiv a1_ (2 ^ (min (toNat 32) Zb))))) 0) : Nat) : Int)))))))
 (.t (decide (65536 ≤ a1_))
 (.g (decide ((0 : Int) ≤ (16 : Int))) <|
 .t (decide ((256 : Int) ≤ (Int.fdiv a1_ (2 ^ (min (toNat 16) Zb)))))
 (.g (decide ((0 : Int) ≤ (8 : Int))) <|
 .g (inR (wrap .u8 (Int.fdiv (Int.fdiv a1_ (2 ^ (min (toNat 16) Zb))) (2 ^ (min (toNat 8) Zb)))) (length Za)) <|
 .l (wrap .i64 ((wrap .i64 ((wrap .i64 ((0 : Int) + 16)) + 8)) + (wrap .i64 ((UInt8.toNat (getD Za (toNat (wrap .u8 (Int.fdiv (Int.fdiv a1_ (2 ^ (min (toNat 16) Zb))) (2 ^ (min (toNat 8) Zb))))) 0) : Nat) : Int)))))
 (.g (inR (wrap .u8 (Int.fdiv a1_ (2 ^ (min (toNat 16) Zb)))) (length Za)) <|
 .l (wrap .i64 ((wrap .i64 ((0 : Int) + 16)) + (wrap .i64 ((UInt8.toNat (getD Za (toNat (wrap .u8 (Int.fdiv a1_ (2 ^ (min (toNat 16) Zb))))) 0) : Nat) : Int))))))
 (.t (decide (256 ≤ a1_))
 (.g (decide ((0 : Int) ≤ (8 : Int))) <|
 .g (inR (wrap .u8 (Int.fdiv a1_ (2 ^ (min (toNat 8) Zb)))) (length Za)) <|
 .l (wrap .i64 ((wrap .i64 ((0 : Int) + 8)) + (wrap .i64 ((UInt8.toNat (getD Za (toNat (wrap .u8 (Int.fdiv a1_ (2 ^ (min (toNat 8) Zb))))) 0) : Nat) : Int)))))
 (.g (inR (wrap .u8 a1_) (length Za)) <|
 .l (wrap .i64 ((0 : Int) + (wrap .i64 ((UInt8.toNat (getD Za (toNat (wrap .u8 a1_)) 0) : Nat) : Int)))))))
noncomputable def wbaj (a1_ : Int) : Option (Int) := (wbai a1_).ev
noncomputable def wbgl : RetK := yr [.tmp 2] Zf
noncomputable def wapk : FD := yd (yj [.dat (.int .u64)]) [] [] Int (fun x => wbaj x.1.1) (fun r => ([.dat yi r], []))
noncomputable def wbak (a1_ : Int) : Tr (Int) :=
 .c (Int) (wbaj a1_) fun r1_ =>
 .l r1_
noncomputable def wapl (a1_ : Int) : Option (Int) := (wbak a1_).ev
noncomputable def wbgm : RetK := yr [.tmp 2] Zf
noncomputable def waje : FD := yd (yj [.dat (.int .u64)]) [] [] Int (fun x => wapl x.1.1) (fun r => ([.dat yi r], []))
noncomputable def wadv (k : Int × (Int × ((Ye) × Int))) (v : Int × Yd) : Tr ((Int × Yd) ⊕ Yd) :=
 .t (decide (k.1 < v.1))
 (.g (inR v.1 (length v.2.1)) <|
 .g (decide ((toNat v.1) < length v.2.1) && decide ((getD v.2.1 (toNat v.1) 0) < length v.2.2)) <|
 .g (inR (wrap .i64 (v.1 - 1)) (length v.2.1)) <|
 .g (decide ((toNat (wrap .i64 (v.1 - 1))) < length v.2.1) && decide ((getD v.2.1 (toNat (wrap .i64 (v.1 - 1))) 0) < length v.2.2)) <|
 .c (Int) (k.2.2.1 ((getD v.2.2 (getD v.2.1 (toNat v.1) 0) ([] : Y1)), ((getD v.2.2 (getD v.2.1 (toNat (wrap .i64 (v.1 - 1))) 0) ([] : Y1)), ()))) fun r12_ =>
 .t (decide (r12_ < 0))
 (.g (inR (wrap .i64 (v.1 - 1)) (length v.2.1)) <|
 .g (decide ((toNat (wrap .i64 (v.1 - 1))) < length v.2.1) && decide ((getD v.2.1 (toNat (wrap .i64 (v.1 - 1))) 0) < length v.2.2)) <|
 .g (inR v.1 (length v.2.1)) <|
 .g (decide ((toNat v.1) < length v.2.1) && decide ((getD v.2.1 (toNat v.1) 0) < length v.2.2)) <|
 .g (inR v.1 (length v.2.1)) <|
 .g (decide ((toNat v.1) < length v.2.1)) <|
 .g (inR (wrap .i64 (v.1 - 1)) (length (set v.2.1 (toNat v.1) (getD v.2.1 (toNat (wrap .i64 (v.1 - 1))) 0)))) <|
 .g (decide ((toNat (wrap .i64 (v.1 - 1))) < length (set v.2.1 (toNat v.1) (getD v.2.1 (toNat (wrap .i64 (v.1 - 1))) 0)))) <|
 .l (.inl ((wrap .i64 (v.1 - 1)), ((set (set v.2.1 (toNat v.1) (getD v.2.1 (toNat (wrap .i64 (v.1 - 1))) 0)) (toNat (wrap .i64 (v.1 - 1))) (getD v.2.1 (toNat v.1) 0)), v.2.2))))
 (.l (.inr v.2)))
 (.l (.inr v.2))
noncomputable def wapm (k : Int × (Int × ((Ye) × Int))) (v : Int × Yd) : Option Yd := iter (fun v => (wadv k v).ev) v
noncomputable def wwr : LD := ⟨{ acts := [], S := { slots := [0, 1, 2, 3, 8, 9], sh := (yj [.arr 64, .dat yi, .dat yi, .clo [y1, y1] yi, .dat yi, .dat yi]), obs := [Zi] } }, [(2, { acts := [], S := { slots := [0, 1, 2, 3, 8], sh := (yj [.arr 64, .dat yi, .dat yi, .clo [y1, y1] yi, .dat yi]), obs := [Zi] } })], (yh [] .nil), Int × (Int × ((Ye) × Int)), Int × Yd, (List Nat) × Y2, fun k v => (((), (k.1, (k.2.1, (k.2.2.1, (k.2.2.2, (v.1, ())))))), (v.2, ())), fun t => (t.1.2.1, (t.1.2.2.1, (t.1.2.2.2.1, t.1.2.2.2.2.1))), fun t => (t.1.2.2.2.2.2.1, t.2.1), wadv, fun k r => .l (.exit 2 (wbj ({ slots := [0, 1, 2, 3, 8], sh := (yj [.arr 64, .dat yi, .dat yi, .clo [y1, y1] yi, .dat yi]), obs := [Zi] }) (((), (k.1, (k.2.1, (k.2.2.1, (k.2.2.2, ()))))), (r, ()))))⟩
noncomputable def wadw (k : Int × (Int × (Ye))) (v : Int × Yd) : Tr ((Int × Yd) ⊕ Yd) :=
 .t (decide (v.1 < k.2.1))
 (.c Yd (wapm (k.1, (k.2.1, (k.2.2, v.1))) (v.1, v.2)) fun r18_ =>
 .l (.inl ((wrap .i64 (v.1 + 1)), r18_)))
 (.l (.inr v.2))
noncomputable def wapn (k : Int × (Int × (Ye))) (v : Int × Yd) : Option Yd := iter (fun v => (wadw k v).ev) v
noncomputable def wws : LD := ⟨{ acts := [], S := { slots := [0, 1, 2, 3, 8], sh := (yj [.arr 64, .dat yi, .dat yi, .clo [y1, y1] yi, .dat yi]), obs := [Zi] } }, [(0, { acts := [], S := { slots := [0], sh := Zq, obs := [Zi] } })], (yh [] .nil), Int × (Int × (Ye)), Int × Yd, (List Nat) × Y2, fun k v => (((), (k.1, (k.2.1, (k.2.2, (v.1, ()))))), (v.2, ())), fun t => (t.1.2.1, (t.1.2.2.1, t.1.2.2.2.1)), fun t => (t.1.2.2.2.2.1, t.2.1), wadw, fun _ r => .l (.exit 0 (wbj ({ slots := [0], sh := Zq, obs := [Zi] }) (((), ()), (r, ()))))⟩
noncomputable def wbal (a2_ : Int) (a3_ : Int) (a4_ : Ye) (a1_ : (List Nat) × Y2) : Tr Yd :=
 .c Yd (wapn (a2_, (a3_, a4_)) ((wrap .i64 (a2_ + 1)), a1_)) fun r20_ =>
 .l r20_
noncomputable def wbam (a2_ : Int) (a3_ : Int) (a4_ : Ye) (a1_ : (List Nat) × Y2) : Option Yd := (wbal a2_ a3_ a4_ a1_).ev
noncomputable def wbgn : RetK := { acts := [], res := [], sh := .nil, obs := [Zi], pins := [(0, 0, 64)] }
noncomputable def wapo : FD := yd (yj [.arr 64, .dat yi, .dat yi, .clo [y1, y1] yi]) [Zi] [.arg 0] Yd (fun x => wbam x.1.2.1 x.1.2.2.1 x.1.2.2.2.1 x.2.1) (fun r => ([], [(64, .perm false 22 3 yi r.1 r.2)]))
noncomputable def wajf : Env := waa []
noncomputable def wajg : List (Nat × LD) := [(2, wwr), (0, wws)]
noncomputable def wajh : Code := (f129.body).getD .skip
noncomputable def wban (a1_ : Int) : Tr (Int) :=
 .c (Int) (wapl (wrap .u64 a1_)) fun r1_ =>
 .g (decide (0 ≤ r1_)) <|
 .l (wrap .u64 ((1 : Int) * 2 ^ (min (toNat r1_) Zb)))
noncomputable def wbao (a1_ : Int) : Option (Int) := (wban a1_).ev
noncomputable def wbgo : RetK := yr [.tmp 2] (yj [.dat (.int .u64)])
noncomputable def wapp : FD := yd Zf [] [] Int (fun x => wbao x.1.1) (fun r => ([.dat (.int .u64) r], []))
noncomputable def wbap (a1_ : Int) : Tr Yc :=
 .g (decide ((0 : Int) ≤ (13 : Int))) <|
 .g (decide ((0 : Int) ≤ (7 : Int))) <|
 .g (decide ((0 : Int) ≤ (17 : Int))) <|
 .l ((wrap .u64 (BitVec.toNat ((BitVec.ofInt Zb (wrap .u64 (BitVec.toNat ((BitVec.ofInt Zb (wrap .u64 (BitVec.toNat ((BitVec.ofInt Zb a1_) ^^^ (BitVec.ofInt Zb (wrap .u64 (a1_ * 2 ^ (min (toNat 13) Zb)))))))) ^^^ (BitVec.ofInt Zb (Int.fdiv (wrap .u64 (BitVec.toNat ((BitVec.ofInt Zb a1_) ^^^ (BitVec.ofInt Zb (wrap .u64 (a1_ * 2 ^ (min (toNat 13) Zb))))))) (2 ^ (min (toNat 7) Zb)))))))) ^^^ (BitVec.ofInt Zb (wrap .u64 ((wrap .u64 (BitVec.toNat ((BitVec.ofInt Zb (wrap .u64 (BitVec.toNat ((BitVec.ofInt Zb a1_) ^^^ (BitVec.ofInt Zb (wrap .u64 (a1_ * 2 ^ (min (toNat 13) Zb)))))))) ^^^ (BitVec.ofInt Zb (Int.fdiv (wrap .u64 (BitVec.toNat ((BitVec.ofInt Zb a1_) ^^^ (BitVec.ofInt Zb (wrap .u64 (a1_ * 2 ^ (min (toNat 13) Zb))))))) (2 ^ (min (toNat 7) Zb))))))) * 2 ^ (min (toNat 17) Zb))))))), (wrap .u64 (BitVec.toNat ((BitVec.ofInt Zb (wrap .u64 (BitVec.toNat ((BitVec.ofInt Zb (wrap .u64 (BitVec.toNat ((BitVec.ofInt Zb a1_) ^^^ (BitVec.ofInt Zb (wrap .u64 (a1_ * 2 ^ (min (toNat 13) Zb)))))))) ^^^ (BitVec.ofInt Zb (Int.fdiv (wrap .u64 (BitVec.toNat ((BitVec.ofInt Zb a1_) ^^^ (BitVec.ofInt Zb (wrap .u64 (a1_ * 2 ^ (min (toNat 13) Zb))))))) (2 ^ (min (toNat 7) Zb)))))))) ^^^ (BitVec.ofInt Zb (wrap .u64 ((wrap .u64 (BitVec.toNat ((BitVec.ofInt Zb (wrap .u64 (BitVec.toNat ((BitVec.ofInt Zb a1_) ^^^ (BitVec.ofInt Zb (wrap .u64 (a1_ * 2 ^ (min (toNat 13) Zb)))))))) ^^^ (BitVec.ofInt Zb (Int.fdiv (wrap .u64 (BitVec.toNat ((BitVec.ofInt Zb a1_) ^^^ (BitVec.ofInt Zb (wrap .u64 (a1_ * 2 ^ (min (toNat 13) Zb))))))) (2 ^ (min (toNat 7) Zb))))))) * 2 ^ (min (toNat 17) Zb))))))))
noncomputable def wbaq (a1_ : Int) : Option Yc := (wbap a1_).ev
noncomputable def wbgp : RetK := { acts := [], res := [.tmp 2], sh := (yj [.dat (.int .u64)]), obs := [(64, .cells (yj [.dat (.int .u64)]))], pins := [(0, 0, 64)] }
noncomputable def wapq : FD := yd (yj [.box 64 0]) [(64, .cells (yj [.dat (.int .u64)]))] [.arg 0] (Int × (Int)) (fun x => wbaq x.2.1.1) (fun r => ([.dat (.int .u64) r.1], [(64, .cells [.dat (.int .u64) r.2])]))
noncomputable def wadx (k : Int × Yc) (v : Int × (Yd × Int)) : Tr ((Int × (Yd × Int)) ⊕ Yd) :=
 .g (!decide ((4 : Int) = 0)) <|
 .t (decide (v.1 ≤ (wrap .i64 ((wrap .i64 (k.1 + (wrap .i64 ((wrap .i64 (Int.tdiv k.2.1 (4 : Int))) * (2 : Int))))) + 1))))
 (.c Yc (wbaq v.2.2) fun r8_ =>
 .t (decide (k.2.1 ≤ (wrap .i64 (wrap .u64 (BitVec.toNat ((BitVec.ofInt Zb r8_.1) &&& (BitVec.ofInt Zb (wrap .u64 (k.2.2 - 1)))))))))
 (.g (inR (wrap .i64 (k.1 + (wrap .i64 ((wrap .i64 (wrap .u64 (BitVec.toNat ((BitVec.ofInt Zb r8_.1) &&& (BitVec.ofInt Zb (wrap .u64 (k.2.2 - 1))))))) - k.2.1)))) (length v.2.1.1)) <|
 .g (decide ((toNat (wrap .i64 (k.1 + (wrap .i64 ((wrap .i64 (wrap .u64 (BitVec.toNat ((BitVec.ofInt Zb r8_.1) &&& (BitVec.ofInt Zb (wrap .u64 (k.2.2 - 1))))))) - k.2.1))))) < length v.2.1.1) && decide ((getD v.2.1.1 (toNat (wrap .i64 (k.1 + (wrap .i64 ((wrap .i64 (wrap .u64 (BitVec.toNat ((BitVec.ofInt Zb r8_.1) &&& (BitVec.ofInt Zb (wrap .u64 (k.2.2 - 1))))))) - k.2.1))))) 0) < length v.2.1.2)) <|
 .g (inR v.1 (length v.2.1.1)) <|
 .g (decide ((toNat v.1) < length v.2.1.1) && decide ((getD v.2.1.1 (toNat v.1) 0) < length v.2.1.2)) <|
 .g (inR v.1 (length v.2.1.1)) <|
 .g (decide ((toNat v.1) < length v.2.1.1)) <|
 .g (inR (wrap .i64 (k.1 + (wrap .i64 ((wrap .i64 (wrap .u64 (BitVec.toNat ((BitVec.ofInt Zb r8_.1) &&& (BitVec.ofInt Zb (wrap .u64 (k.2.2 - 1))))))) - k.2.1)))) (length (set v.2.1.1 (toNat v.1) (getD v.2.1.1 (toNat (wrap .i64 (k.1 + (wrap .i64 ((wrap .i64 (wrap .u64 (BitVec.toNat ((BitVec.ofInt Zb r8_.1) &&& (BitVec.ofInt Zb (wrap .u64 (k.2.2 - 1))))))) - k.2.1))))) 0)))) <|
 .g (decide ((toNat (wrap .i64 (k.1 + (wrap .i64 ((wrap .i64 (wrap .u64 (BitVec.toNat ((BitVec.ofInt Zb r8_.1) &&& (BitVec.ofInt Zb (wrap .u64 (k.2.2 - 1))))))) - k.2.1))))) < length (set v.2.1.1 (toNat v.1) (getD v.2.1.1 (toNat (wrap .i64 (k.1 + (wrap .i64 ((wrap .i64 (wrap .u64 (BitVec.toNat ((BitVec.ofInt Zb r8_.1) &&& (BitVec.ofInt Zb (wrap .u64 (k.2.2 - 1))))))) - k.2.1))))) 0)))) <|
 .l (.inl ((wrap .i64 (v.1 + 1)), (((set (set v.2.1.1 (toNat v.1) (getD v.2.1.1 (toNat (wrap .i64 (k.1 + (wrap .i64 ((wrap .i64 (wrap .u64 (BitVec.toNat ((BitVec.ofInt Zb r8_.1) &&& (BitVec.ofInt Zb (wrap .u64 (k.2.2 - 1))))))) - k.2.1))))) 0)) (toNat (wrap .i64 (k.1 + (wrap .i64 ((wrap .i64 (wrap .u64 (BitVec.toNat ((BitVec.ofInt Zb r8_.1) &&& (BitVec.ofInt Zb (wrap .u64 (k.2.2 - 1))))))) - k.2.1))))) (getD v.2.1.1 (toNat v.1) 0)), v.2.1.2), r8_.2))))
 (.g (inR (wrap .i64 (k.1 + (wrap .i64 (wrap .u64 (BitVec.toNat ((BitVec.ofInt Zb r8_.1) &&& (BitVec.ofInt Zb (wrap .u64 (k.2.2 - 1))))))))) (length v.2.1.1)) <|
 .g (decide ((toNat (wrap .i64 (k.1 + (wrap .i64 (wrap .u64 (BitVec.toNat ((BitVec.ofInt Zb r8_.1) &&& (BitVec.ofInt Zb (wrap .u64 (k.2.2 - 1)))))))))) < length v.2.1.1) && decide ((getD v.2.1.1 (toNat (wrap .i64 (k.1 + (wrap .i64 (wrap .u64 (BitVec.toNat ((BitVec.ofInt Zb r8_.1) &&& (BitVec.ofInt Zb (wrap .u64 (k.2.2 - 1)))))))))) 0) < length v.2.1.2)) <|
 .g (inR v.1 (length v.2.1.1)) <|
 .g (decide ((toNat v.1) < length v.2.1.1) && decide ((getD v.2.1.1 (toNat v.1) 0) < length v.2.1.2)) <|
 .g (inR v.1 (length v.2.1.1)) <|
 .g (decide ((toNat v.1) < length v.2.1.1)) <|
 .g (inR (wrap .i64 (k.1 + (wrap .i64 (wrap .u64 (BitVec.toNat ((BitVec.ofInt Zb r8_.1) &&& (BitVec.ofInt Zb (wrap .u64 (k.2.2 - 1))))))))) (length (set v.2.1.1 (toNat v.1) (getD v.2.1.1 (toNat (wrap .i64 (k.1 + (wrap .i64 (wrap .u64 (BitVec.toNat ((BitVec.ofInt Zb r8_.1) &&& (BitVec.ofInt Zb (wrap .u64 (k.2.2 - 1)))))))))) 0)))) <|
 .g (decide ((toNat (wrap .i64 (k.1 + (wrap .i64 (wrap .u64 (BitVec.toNat ((BitVec.ofInt Zb r8_.1) &&& (BitVec.ofInt Zb (wrap .u64 (k.2.2 - 1)))))))))) < length (set v.2.1.1 (toNat v.1) (getD v.2.1.1 (toNat (wrap .i64 (k.1 + (wrap .i64 (wrap .u64 (BitVec.toNat ((BitVec.ofInt Zb r8_.1) &&& (BitVec.ofInt Zb (wrap .u64 (k.2.2 - 1)))))))))) 0)))) <|
 .l (.inl ((wrap .i64 (v.1 + 1)), (((set (set v.2.1.1 (toNat v.1) (getD v.2.1.1 (toNat (wrap .i64 (k.1 + (wrap .i64 (wrap .u64 (BitVec.toNat ((BitVec.ofInt Zb r8_.1) &&& (BitVec.ofInt Zb (wrap .u64 (k.2.2 - 1)))))))))) 0)) (toNat (wrap .i64 (k.1 + (wrap .i64 (wrap .u64 (BitVec.toNat ((BitVec.ofInt Zb r8_.1) &&& (BitVec.ofInt Zb (wrap .u64 (k.2.2 - 1)))))))))) (getD v.2.1.1 (toNat v.1) 0)), v.2.1.2), r8_.2)))))
 (.l (.inr v.2.1))
noncomputable def wapr (k : Int × Yc) (v : Int × (Yd × Int)) : Option Yd := iter (fun v => (wadx k v).ev) v
noncomputable def wwt : LD := ⟨{ acts := [], S := { slots := [0, 1, 8, 9, 10, 11], sh := (yj [.arr 64, .dat yi, .dat yi, .box 9 0, .dat (.int .u64), .dat yi]), obs := [Zi, (9, .cells (yj [.dat (.int .u64)]))] } }, [(0, { acts := [], S := { slots := [0], sh := Zq, obs := [Zi] } })], (yh [] .nil), Int × Yc, Int × (Yd × Int), (List Nat) × Y2, fun k v => (((), (k.1, (k.2.1, ((), (k.2.2, (v.1, ())))))), (v.2.1, ((v.2.2, ()), ()))), fun t => (t.1.2.1, (t.1.2.2.1, t.1.2.2.2.2.1)), fun t => (t.1.2.2.2.2.2.1, (t.2.1, t.2.2.1.1)), wadx, fun _ r => .l (.exit 0 (wbj ({ slots := [0], sh := Zq, obs := [Zi] }) (((), ()), (r, ()))))⟩
noncomputable def wbar (a2_ : Int) (a3_ : Int) (_a4_ : Ye) (a1_ : (List Nat) × Y2) : Tr Yd :=
 .t (decide ((8 : Int) ≤ (wrap .i64 (a3_ - a2_))))
 (.c (Int) (wbao (wrap .i64 (a3_ - a2_))) fun r1_ =>
 .g (!decide ((4 : Int) = 0)) <|
 .c Yd (wapr (a2_, ((wrap .i64 (a3_ - a2_)), r1_)) ((wrap .i64 ((wrap .i64 (a2_ + (wrap .i64 ((wrap .i64 (Int.tdiv (wrap .i64 (a3_ - a2_)) (4 : Int))) * (2 : Int))))) - 1)), (a1_, (wrap .u64 (wrap .i64 (a3_ - a2_)))))) fun r10_ =>
 .l r10_)
 (.l a1_)
noncomputable def wbas (a2_ : Int) (a3_ : Int) (a4_ : Ye) (a1_ : (List Nat) × Y2) : Option Yd := (wbar a2_ a3_ a4_ a1_).ev
noncomputable def wbgq : RetK := { acts := [], res := [], sh := .nil, obs := [Zi], pins := [(0, 0, 64)] }
noncomputable def waps : FD := yd (yj [.arr 64, .dat yi, .dat yi, .clo [y1, y1] yi]) [Zi] [.arg 0] Yd (fun x => wbas x.1.2.1 x.1.2.2.1 x.1.2.2.2.1 x.2.1) (fun r => ([], [(64, .perm false 22 3 yi r.1 r.2)]))
noncomputable def wapt : Env := waa [(154, wapp), (155, wapq)]
noncomputable def wapu : List (Nat × LD) := [(0, wwt)]
noncomputable def wapv : Code := (f131.body).getD .skip
noncomputable def wbat (a1_ : List Y1) (a2_ : Int) (a3_ : Int) (a5_ : Ye) (a4_ : Int) : Tr (Int × Yc) :=
 .g (inR a3_ (length a1_)) <|
 .g (inR a2_ (length a1_)) <|
 .c (Int) (a5_ ((getD a1_ (toNat a3_) ([] : Y1)), ((getD a1_ (toNat a2_) ([] : Y1)), ()))) fun r1_ =>
 .t (decide (r1_ < 0))
 (.l (a3_, (a2_, (wrap .i64 (a4_ + 1)))))
 (.l (a2_, (a3_, a4_)))
noncomputable def waji (a1_ : List Y1) (a2_ : Int) (a3_ : Int) (a5_ : Ye) (a4_ : Int) : Option (Int × Yc) := (wbat a1_ a2_ a3_ a5_ a4_).ev
noncomputable def wbgr : RetK := { acts := [], res := [.tmp 10, .tmp 11], sh := Zm, obs := [(64, .cells Zf)], pins := [(3, 0, 64)] }
noncomputable def wapw : FD := yd (yj [.dat y2, .dat yi, .dat yi, .box 64 0, .clo [y1, y1] yi]) [(64, .cells Zf)] [.arg 3] (Int × Yc) (fun x => waji x.1.1 x.1.2.1 x.1.2.2.1 x.1.2.2.2.2.1 x.2.1.1) (fun r => ([.dat yi r.1, .dat yi r.2.1], [(64, .cells [.dat yi r.2.2])]))
noncomputable def wbau (a1_ : List Y1) (a2_ : Int) (a3_ : Int) (a4_ : Int) (a6_ : Ye) (a5_ : Int) : Tr Yc :=
 .c (Int × Yc) (waji a1_ a2_ a3_ a6_ a5_) fun r1_ =>
 .c (Int × Yc) (waji a1_ r1_.2.1 a4_ a6_ r1_.2.2) fun r2_ =>
 .c (Int × Yc) (waji a1_ r1_.1 r2_.1 a6_ r2_.2.2) fun r3_ =>
 .l (r3_.2.1, r3_.2.2)
noncomputable def wajj (a1_ : List Y1) (a2_ : Int) (a3_ : Int) (a4_ : Int) (a6_ : Ye) (a5_ : Int) : Option Yc := (wbau a1_ a2_ a3_ a4_ a6_ a5_).ev
noncomputable def wbgs : RetK := { acts := [], res := [.tmp 12], sh := Zf, obs := [(64, .cells Zf)], pins := [(4, 0, 64)] }
noncomputable def wajk : FD := yd (yj [.dat y2, .dat yi, .dat yi, .dat yi, .box 64 0, .clo [y1, y1] yi]) [(64, .cells Zf)] [.arg 4] (Int × (Int)) (fun x => wajj x.1.1 x.1.2.1 x.1.2.2.1 x.1.2.2.2.1 x.1.2.2.2.2.2.1 x.2.1.1) (fun r => ([.dat yi r.1], [(64, .cells [.dat yi r.2])]))
noncomputable def wbav (a1_ : List Y1) (a2_ : Int) (a4_ : Ye) (a3_ : Int) : Tr Yc :=
 .c Yc (wajj a1_ (wrap .i64 (a2_ - 1)) a2_ (wrap .i64 (a2_ + 1)) a4_ a3_) fun r1_ =>
 .l (r1_.1, r1_.2)
noncomputable def wajl (a1_ : List Y1) (a2_ : Int) (a4_ : Ye) (a3_ : Int) : Option Yc := (wbav a1_ a2_ a4_ a3_).ev
noncomputable def wbgt : RetK := { acts := [], res := [.tmp 8], sh := Zf, obs := [(64, .cells Zf)], pins := [(2, 0, 64)] }
noncomputable def wapx : FD := yd (yj [.dat y2, .dat yi, .box 64 0, .clo [y1, y1] yi]) [(64, .cells Zf)] [.arg 2] (Int × (Int)) (fun x => wajl x.1.1 x.1.2.1 x.1.2.2.2.1 x.2.1.1) (fun r => ([.dat yi r.1], [(64, .cells [.dat yi r.2])]))
noncomputable def wbaw (a1_ : List Y1) (a2_ : Int) (a3_ : Int) (a4_ : Ye) : Tr Yc :=
 .g (!decide ((4 : Int) = 0)) <|
 .g (!decide ((4 : Int) = 0)) <|
 .g (!decide ((4 : Int) = 0)) <|
 .t (decide ((8 : Int) ≤ (wrap .i64 (a3_ - a2_))))
 (.t (decide ((50 : Int) ≤ (wrap .i64 (a3_ - a2_))))
 (.c Yc (wajl a1_ (wrap .i64 (a2_ + (wrap .i64 ((wrap .i64 (Int.tdiv (wrap .i64 (a3_ - a2_)) (4 : Int))) * (1 : Int))))) a4_ (0 : Int)) fun r1_ =>
 .c Yc (wajl a1_ (wrap .i64 (a2_ + (wrap .i64 ((wrap .i64 (Int.tdiv (wrap .i64 (a3_ - a2_)) (4 : Int))) * (2 : Int))))) a4_ r1_.2) fun r2_ =>
 .c Yc (wajl a1_ (wrap .i64 (a2_ + (wrap .i64 ((wrap .i64 (Int.tdiv (wrap .i64 (a3_ - a2_)) (4 : Int))) * (3 : Int))))) a4_ r2_.2) fun r3_ =>
 .c Yc (wajj a1_ r1_.1 r2_.1 r3_.1 a4_ r3_.2) fun r4_ =>
 .t (r4_.2 == 0)
 (.l (r4_.1, (1 : Int)))
 (.t (r4_.2 == 12)
 (.l (r4_.1, (2 : Int)))
 (.l (r4_.1, (0 : Int)))))
 (.c Yc (wajj a1_ (wrap .i64 (a2_ + (wrap .i64 ((wrap .i64 (Int.tdiv (wrap .i64 (a3_ - a2_)) (4 : Int))) * (1 : Int))))) (wrap .i64 (a2_ + (wrap .i64 ((wrap .i64 (Int.tdiv (wrap .i64 (a3_ - a2_)) (4 : Int))) * (2 : Int))))) (wrap .i64 (a2_ + (wrap .i64 ((wrap .i64 (Int.tdiv (wrap .i64 (a3_ - a2_)) (4 : Int))) * (3 : Int))))) a4_ (0 : Int)) fun r5_ =>
 .t (r5_.2 == 0)
 (.l (r5_.1, (1 : Int)))
 (.t (r5_.2 == 12)
 (.l (r5_.1, (2 : Int)))
 (.l (r5_.1, (0 : Int))))))
 (.t ((0 : Int) == (0 : Int))
 (.l ((wrap .i64 (a2_ + (wrap .i64 ((wrap .i64 (Int.tdiv (wrap .i64 (a3_ - a2_)) (4 : Int))) * (2 : Int))))), (1 : Int)))
 (.t ((0 : Int) == (12 : Int))
 (.l ((wrap .i64 (a2_ + (wrap .i64 ((wrap .i64 (Int.tdiv (wrap .i64 (a3_ - a2_)) (4 : Int))) * (2 : Int))))), (2 : Int)))
 (.l ((wrap .i64 (a2_ + (wrap .i64 ((wrap .i64 (Int.tdiv (wrap .i64 (a3_ - a2_)) (4 : Int))) * (2 : Int))))), (0 : Int)))))
noncomputable def wapy (a1_ : List Y1) (a2_ : Int) (a3_ : Int) (a4_ : Ye) : Option Yc := (wbaw a1_ a2_ a3_ a4_).ev
noncomputable def wbgu : RetK := yr [.tmp 8, .tmp 9] Zm
noncomputable def wapz : FD := yd (yj [.dat y2, .dat yi, .dat yi, .clo [y1, y1] yi]) [] [] (Int × (Int)) (fun x => wapy x.1.1 x.1.2.1 x.1.2.2.1 x.1.2.2.2.1) (fun r => ([.dat yi r.1, .dat yi r.2], []))
noncomputable def wady (k : Int × Yp) (v : Int) : Tr ((Int) ⊕ (Int)) :=
 .t (decide (v ≤ k.2.2.1))
 (.g (inR v (length k.2.2.2.1)) <|
 .g (decide ((toNat v) < length k.2.2.2.1) && decide ((getD k.2.2.2.1 (toNat v) 0) < length k.2.2.2.2)) <|
 .g (inR k.1 (length k.2.2.2.1)) <|
 .g (decide ((toNat k.1) < length k.2.2.2.1) && decide ((getD k.2.2.2.1 (toNat k.1) 0) < length k.2.2.2.2)) <|
 .c (Int) (k.2.1 ((getD k.2.2.2.2 (getD k.2.2.2.1 (toNat v) 0) ([] : Y1)), ((getD k.2.2.2.2 (getD k.2.2.2.1 (toNat k.1) 0) ([] : Y1)), ()))) fun r6_ =>
 .t (decide (r6_ < 0))
 (.l (.inl (wrap .i64 (v + 1))))
 (.l (.inr v)))
 (.l (.inr v))
noncomputable def waqa (k : Int × Yp) (v : Int) : Option (Int) := iter (fun v => (wady k v).ev) v
noncomputable def wwu : LD := ⟨{ acts := [], S := { slots := [0, 1, 4, 12, 13], sh := Zh, obs := [Zi] } }, [(0, { acts := [], S := { slots := [0, 1, 4, 12, 13], sh := Zh, obs := [Zi] } })], (yh [] .nil), Int × Yp, Int, Int, fun k v => (((), (k.1, (k.2.1, (v, (k.2.2.1, ()))))), (k.2.2.2, ())), fun t => (t.1.2.1, (t.1.2.2.1, (t.1.2.2.2.2.1, t.2.1))), fun t => t.1.2.2.2.1, wady, fun k r => .l (.exit 0 (wbj ({ slots := [0, 1, 4, 12, 13], sh := Zh, obs := [Zi] }) (((), (k.1, (k.2.1, (r, (k.2.2.1, ()))))), (k.2.2.2, ()))))⟩
noncomputable def wadz (k : Int × Yp) (v : Int) : Tr ((Int) ⊕ (Int)) :=
 .t (decide (k.2.2.1 ≤ v))
 (.g (inR v (length k.2.2.2.1)) <|
 .g (decide ((toNat v) < length k.2.2.2.1) && decide ((getD k.2.2.2.1 (toNat v) 0) < length k.2.2.2.2)) <|
 .g (inR k.1 (length k.2.2.2.1)) <|
 .g (decide ((toNat k.1) < length k.2.2.2.1) && decide ((getD k.2.2.2.1 (toNat k.1) 0) < length k.2.2.2.2)) <|
 .c (Int) (k.2.1 ((getD k.2.2.2.2 (getD k.2.2.2.1 (toNat v) 0) ([] : Y1)), ((getD k.2.2.2.2 (getD k.2.2.2.1 (toNat k.1) 0) ([] : Y1)), ()))) fun r18_ =>
 .t (!(decide (r18_ < 0)))
 (.l (.inl (wrap .i64 (v - 1))))
 (.l (.inr v)))
 (.l (.inr v))
noncomputable def waqb (k : Int × Yp) (v : Int) : Option (Int) := iter (fun v => (wadz k v).ev) v
noncomputable def wwv : LD := ⟨{ acts := [], S := { slots := [0, 1, 4, 12, 13], sh := Zh, obs := [Zi] } }, [(2, { acts := [], S := { slots := [0, 1, 4, 12, 13], sh := Zh, obs := [Zi] } })], (yh [] .nil), Int × Yp, Int, Int, fun k v => (((), (k.1, (k.2.1, (k.2.2.1, (v, ()))))), (k.2.2.2, ())), fun t => (t.1.2.1, (t.1.2.2.1, (t.1.2.2.2.1, t.2.1))), fun t => t.1.2.2.2.2.1, wadz, fun k r => .l (.exit 2 (wbj ({ slots := [0, 1, 4, 12, 13], sh := Zh, obs := [Zi] }) (((), (k.1, (k.2.1, (k.2.2.1, (r, ()))))), (k.2.2.2, ()))))⟩
noncomputable def waea (k : Int × Yp) (v : Int) : Tr ((Int) ⊕ (Int)) :=
 .t (decide (v ≤ k.2.2.1))
 (.g (inR v (length k.2.2.2.1)) <|
 .g (decide ((toNat v) < length k.2.2.2.1) && decide ((getD k.2.2.2.1 (toNat v) 0) < length k.2.2.2.2)) <|
 .g (inR k.1 (length k.2.2.2.1)) <|
 .g (decide ((toNat k.1) < length k.2.2.2.1) && decide ((getD k.2.2.2.1 (toNat k.1) 0) < length k.2.2.2.2)) <|
 .c (Int) (k.2.1 ((getD k.2.2.2.2 (getD k.2.2.2.1 (toNat v) 0) ([] : Y1)), ((getD k.2.2.2.2 (getD k.2.2.2.1 (toNat k.1) 0) ([] : Y1)), ()))) fun r35_ =>
 .t (decide (r35_ < 0))
 (.l (.inl (wrap .i64 (v + 1))))
 (.l (.inr v)))
 (.l (.inr v))
noncomputable def waqc (k : Int × Yp) (v : Int) : Option (Int) := iter (fun v => (waea k v).ev) v
noncomputable def www : LD := ⟨{ acts := [], S := { slots := [0, 1, 4, 12, 13], sh := Zh, obs := [Zi] } }, [(6, { acts := [], S := { slots := [0, 1, 4, 12, 13], sh := Zh, obs := [Zi] } })], (yh [] .nil), Int × Yp, Int, Int, fun k v => (((), (k.1, (k.2.1, (v, (k.2.2.1, ()))))), (k.2.2.2, ())), fun t => (t.1.2.1, (t.1.2.2.1, (t.1.2.2.2.2.1, t.2.1))), fun t => t.1.2.2.2.1, waea, fun k r => .l (.exit 6 (wbj ({ slots := [0, 1, 4, 12, 13], sh := Zh, obs := [Zi] }) (((), (k.1, (k.2.1, (r, (k.2.2.1, ()))))), (k.2.2.2, ()))))⟩
noncomputable def waeb (k : Int × Yp) (v : Int) : Tr ((Int) ⊕ (Int)) :=
 .t (decide (k.2.2.1 ≤ v))
 (.g (inR v (length k.2.2.2.1)) <|
 .g (decide ((toNat v) < length k.2.2.2.1) && decide ((getD k.2.2.2.1 (toNat v) 0) < length k.2.2.2.2)) <|
 .g (inR k.1 (length k.2.2.2.1)) <|
 .g (decide ((toNat k.1) < length k.2.2.2.1) && decide ((getD k.2.2.2.1 (toNat k.1) 0) < length k.2.2.2.2)) <|
 .c (Int) (k.2.1 ((getD k.2.2.2.2 (getD k.2.2.2.1 (toNat v) 0) ([] : Y1)), ((getD k.2.2.2.2 (getD k.2.2.2.1 (toNat k.1) 0) ([] : Y1)), ()))) fun r47_ =>
 .t (!(decide (r47_ < 0)))
 (.l (.inl (wrap .i64 (v - 1))))
 (.l (.inr v)))
 (.l (.inr v))
noncomputable def waqd (k : Int × Yp) (v : Int) : Option (Int) := iter (fun v => (waeb k v).ev) v
noncomputable def wwx : LD := ⟨{ acts := [], S := { slots := [0, 1, 4, 12, 13], sh := Zh, obs := [Zi] } }, [(8, { acts := [], S := { slots := [0, 1, 4, 12, 13], sh := Zh, obs := [Zi] } })], (yh [] .nil), Int × Yp, Int, Int, fun k v => (((), (k.1, (k.2.1, (k.2.2.1, (v, ()))))), (k.2.2.2, ())), fun t => (t.1.2.1, (t.1.2.2.1, (t.1.2.2.2.1, t.2.1))), fun t => t.1.2.2.2.2.1, waeb, fun k r => .l (.exit 8 (wbj ({ slots := [0, 1, 4, 12, 13], sh := Zh, obs := [Zi] }) (((), (k.1, (k.2.1, (k.2.2.1, (r, ()))))), (k.2.2.2, ()))))⟩
noncomputable def waec (k : Int × (Ye)) (v : Int × (Int × Yd)) : Tr ((Int × (Int × Yd)) ⊕ (Int × Yd)) :=
 .c (Int) (waqc (k.1, (k.2, (v.2.1, v.2.2))) v.1) fun r41_ =>
 .c (Int) (waqd (k.1, (k.2, (r41_, v.2.2))) v.2.1) fun r53_ =>
 .t (decide (r53_ < r41_))
 (.l (.inr (r53_, v.2.2)))
 (.g (inR r53_ (length v.2.2.1)) <|
 .g (decide ((toNat r53_) < length v.2.2.1) && decide ((getD v.2.2.1 (toNat r53_) 0) < length v.2.2.2)) <|
 .g (inR r41_ (length v.2.2.1)) <|
 .g (decide ((toNat r41_) < length v.2.2.1) && decide ((getD v.2.2.1 (toNat r41_) 0) < length v.2.2.2)) <|
 .g (inR r41_ (length v.2.2.1)) <|
 .g (decide ((toNat r41_) < length v.2.2.1)) <|
 .g (inR r53_ (length (set v.2.2.1 (toNat r41_) (getD v.2.2.1 (toNat r53_) 0)))) <|
 .g (decide ((toNat r53_) < length (set v.2.2.1 (toNat r41_) (getD v.2.2.1 (toNat r53_) 0)))) <|
 .l (.inl ((wrap .i64 (r41_ + 1)), ((wrap .i64 (r53_ - 1)), ((set (set v.2.2.1 (toNat r41_) (getD v.2.2.1 (toNat r53_) 0)) (toNat r53_) (getD v.2.2.1 (toNat r41_) 0)), v.2.2.2)))))
noncomputable def waqe (k : Int × (Ye)) (v : Int × (Int × Yd)) : Option (Int × Yd) := iter (fun v => (waec k v).ev) v
noncomputable def wwy : LD := ⟨{ acts := [], S := { slots := [0, 1, 4, 12, 13], sh := Zh, obs := [Zi] } }, [(4, { acts := [], S := { slots := [0, 1, 13], sh := Zn, obs := [Zi] } })], (yh [] .nil), Int × (Ye), Int × (Int × Yd), Int × Yd, fun k v => (((), (k.1, (k.2, (v.1, (v.2.1, ()))))), (v.2.2, ())), fun t => (t.1.2.1, t.1.2.2.1), fun t => (t.1.2.2.2.1, (t.1.2.2.2.2.1, t.2.1)), waec, fun k r => .l (.exit 4 (wbj ({ slots := [0, 1, 13], sh := Zn, obs := [Zi] }) (((), (k.1, (r.1, ()))), (r.2, ()))))⟩
noncomputable def wbax (a2_ : Int) (a3_ : Int) (a4_ : Int) (a5_ : Ye) (a1_ : (List Nat) × Y2) : Tr Yo :=
 .g (inR a4_ (length a1_.1)) <|
 .g (decide ((toNat a4_) < length a1_.1) && decide ((getD a1_.1 (toNat a4_) 0) < length a1_.2)) <|
 .g (inR a2_ (length a1_.1)) <|
 .g (decide ((toNat a2_) < length a1_.1) && decide ((getD a1_.1 (toNat a2_) 0) < length a1_.2)) <|
 .g (inR a2_ (length a1_.1)) <|
 .g (decide ((toNat a2_) < length a1_.1)) <|
 .g (inR a4_ (length (set a1_.1 (toNat a2_) (getD a1_.1 (toNat a4_) 0)))) <|
 .g (decide ((toNat a4_) < length (set a1_.1 (toNat a2_) (getD a1_.1 (toNat a4_) 0)))) <|
 .c (Int) (waqa (a2_, (a5_, ((wrap .i64 (a3_ - 1)), ((set (set a1_.1 (toNat a2_) (getD a1_.1 (toNat a4_) 0)) (toNat a4_) (getD a1_.1 (toNat a2_) 0)), a1_.2)))) (wrap .i64 (a2_ + 1))) fun r12_ =>
 .c (Int) (waqb (a2_, (a5_, (r12_, ((set (set a1_.1 (toNat a2_) (getD a1_.1 (toNat a4_) 0)) (toNat a4_) (getD a1_.1 (toNat a2_) 0)), a1_.2)))) (wrap .i64 (a3_ - 1))) fun r24_ =>
 .t (decide (r24_ < r12_))
 (.g (inR a2_ (length (set (set a1_.1 (toNat a2_) (getD a1_.1 (toNat a4_) 0)) (toNat a4_) (getD a1_.1 (toNat a2_) 0)))) <|
 .g (decide ((toNat a2_) < length (set (set a1_.1 (toNat a2_) (getD a1_.1 (toNat a4_) 0)) (toNat a4_) (getD a1_.1 (toNat a2_) 0))) && decide ((getD (set (set a1_.1 (toNat a2_) (getD a1_.1 (toNat a4_) 0)) (toNat a4_) (getD a1_.1 (toNat a2_) 0)) (toNat a2_) 0) < length a1_.2)) <|
 .g (inR r24_ (length (set (set a1_.1 (toNat a2_) (getD a1_.1 (toNat a4_) 0)) (toNat a4_) (getD a1_.1 (toNat a2_) 0)))) <|
 .g (decide ((toNat r24_) < length (set (set a1_.1 (toNat a2_) (getD a1_.1 (toNat a4_) 0)) (toNat a4_) (getD a1_.1 (toNat a2_) 0))) && decide ((getD (set (set a1_.1 (toNat a2_) (getD a1_.1 (toNat a4_) 0)) (toNat a4_) (getD a1_.1 (toNat a2_) 0)) (toNat r24_) 0) < length a1_.2)) <|
 .g (inR r24_ (length (set (set a1_.1 (toNat a2_) (getD a1_.1 (toNat a4_) 0)) (toNat a4_) (getD a1_.1 (toNat a2_) 0)))) <|
 .g (decide ((toNat r24_) < length (set (set a1_.1 (toNat a2_) (getD a1_.1 (toNat a4_) 0)) (toNat a4_) (getD a1_.1 (toNat a2_) 0)))) <|
 .g (inR a2_ (length (set (set (set a1_.1 (toNat a2_) (getD a1_.1 (toNat a4_) 0)) (toNat a4_) (getD a1_.1 (toNat a2_) 0)) (toNat r24_) (getD (set (set a1_.1 (toNat a2_) (getD a1_.1 (toNat a4_) 0)) (toNat a4_) (getD a1_.1 (toNat a2_) 0)) (toNat a2_) 0)))) <|
 .g (decide ((toNat a2_) < length (set (set (set a1_.1 (toNat a2_) (getD a1_.1 (toNat a4_) 0)) (toNat a4_) (getD a1_.1 (toNat a2_) 0)) (toNat r24_) (getD (set (set a1_.1 (toNat a2_) (getD a1_.1 (toNat a4_) 0)) (toNat a4_) (getD a1_.1 (toNat a2_) 0)) (toNat a2_) 0)))) <|
 .l (r24_, (true, ((set (set (set (set a1_.1 (toNat a2_) (getD a1_.1 (toNat a4_) 0)) (toNat a4_) (getD a1_.1 (toNat a2_) 0)) (toNat r24_) (getD (set (set a1_.1 (toNat a2_) (getD a1_.1 (toNat a4_) 0)) (toNat a4_) (getD a1_.1 (toNat a2_) 0)) (toNat a2_) 0)) (toNat a2_) (getD (set (set a1_.1 (toNat a2_) (getD a1_.1 (toNat a4_) 0)) (toNat a4_) (getD a1_.1 (toNat a2_) 0)) (toNat r24_) 0)), a1_.2))))
 (.g (inR r24_ (length (set (set a1_.1 (toNat a2_) (getD a1_.1 (toNat a4_) 0)) (toNat a4_) (getD a1_.1 (toNat a2_) 0)))) <|
 .g (decide ((toNat r24_) < length (set (set a1_.1 (toNat a2_) (getD a1_.1 (toNat a4_) 0)) (toNat a4_) (getD a1_.1 (toNat a2_) 0))) && decide ((getD (set (set a1_.1 (toNat a2_) (getD a1_.1 (toNat a4_) 0)) (toNat a4_) (getD a1_.1 (toNat a2_) 0)) (toNat r24_) 0) < length a1_.2)) <|
 .g (inR r12_ (length (set (set a1_.1 (toNat a2_) (getD a1_.1 (toNat a4_) 0)) (toNat a4_) (getD a1_.1 (toNat a2_) 0)))) <|
 .g (decide ((toNat r12_) < length (set (set a1_.1 (toNat a2_) (getD a1_.1 (toNat a4_) 0)) (toNat a4_) (getD a1_.1 (toNat a2_) 0))) && decide ((getD (set (set a1_.1 (toNat a2_) (getD a1_.1 (toNat a4_) 0)) (toNat a4_) (getD a1_.1 (toNat a2_) 0)) (toNat r12_) 0) < length a1_.2)) <|
 .g (inR r12_ (length (set (set a1_.1 (toNat a2_) (getD a1_.1 (toNat a4_) 0)) (toNat a4_) (getD a1_.1 (toNat a2_) 0)))) <|
 .g (decide ((toNat r12_) < length (set (set a1_.1 (toNat a2_) (getD a1_.1 (toNat a4_) 0)) (toNat a4_) (getD a1_.1 (toNat a2_) 0)))) <|
 .g (inR r24_ (length (set (set (set a1_.1 (toNat a2_) (getD a1_.1 (toNat a4_) 0)) (toNat a4_) (getD a1_.1 (toNat a2_) 0)) (toNat r12_) (getD (set (set a1_.1 (toNat a2_) (getD a1_.1 (toNat a4_) 0)) (toNat a4_) (getD a1_.1 (toNat a2_) 0)) (toNat r24_) 0)))) <|
 .g (decide ((toNat r24_) < length (set (set (set a1_.1 (toNat a2_) (getD a1_.1 (toNat a4_) 0)) (toNat a4_) (getD a1_.1 (toNat a2_) 0)) (toNat r12_) (getD (set (set a1_.1 (toNat a2_) (getD a1_.1 (toNat a4_) 0)) (toNat a4_) (getD a1_.1 (toNat a2_) 0)) (toNat r24_) 0)))) <|
 .c (Int × Yd) (waqe (a2_, a5_) ((wrap .i64 (r12_ + 1)), ((wrap .i64 (r24_ - 1)), ((set (set (set (set a1_.1 (toNat a2_) (getD a1_.1 (toNat a4_) 0)) (toNat a4_) (getD a1_.1 (toNat a2_) 0)) (toNat r12_) (getD (set (set a1_.1 (toNat a2_) (getD a1_.1 (toNat a4_) 0)) (toNat a4_) (getD a1_.1 (toNat a2_) 0)) (toNat r24_) 0)) (toNat r24_) (getD (set (set a1_.1 (toNat a2_) (getD a1_.1 (toNat a4_) 0)) (toNat a4_) (getD a1_.1 (toNat a2_) 0)) (toNat r12_) 0)), a1_.2)))) fun r57_ =>
 .g (inR a2_ (length r57_.2.1)) <|
 .g (decide ((toNat a2_) < length r57_.2.1) && decide ((getD r57_.2.1 (toNat a2_) 0) < length r57_.2.2)) <|
 .g (inR r57_.1 (length r57_.2.1)) <|
 .g (decide ((toNat r57_.1) < length r57_.2.1) && decide ((getD r57_.2.1 (toNat r57_.1) 0) < length r57_.2.2)) <|
 .g (inR r57_.1 (length r57_.2.1)) <|
 .g (decide ((toNat r57_.1) < length r57_.2.1)) <|
 .g (inR a2_ (length (set r57_.2.1 (toNat r57_.1) (getD r57_.2.1 (toNat a2_) 0)))) <|
 .g (decide ((toNat a2_) < length (set r57_.2.1 (toNat r57_.1) (getD r57_.2.1 (toNat a2_) 0)))) <|
 .l (r57_.1, (false, ((set (set r57_.2.1 (toNat r57_.1) (getD r57_.2.1 (toNat a2_) 0)) (toNat a2_) (getD r57_.2.1 (toNat r57_.1) 0)), r57_.2.2))))
noncomputable def wiq (a2_ : Int) (a3_ : Int) (a4_ : Int) (a5_ : Ye) (a1_ : (List Nat) × Y2) : Option Yo := (wbax a2_ a3_ a4_ a5_ a1_).ev
noncomputable def wbgv : RetK := { acts := [], res := [.tmp 10, .tmp 11], sh := (yj [.dat yi, .dat .bool]), obs := [Zi], pins := [(0, 0, 64)] }
noncomputable def waqf : FD := yd (yj [.arr 64, .dat yi, .dat yi, .dat yi, .clo [y1, y1] yi]) [Zi] [.arg 0] Yo (fun x => wiq x.1.2.1 x.1.2.2.1 x.1.2.2.2.1 x.1.2.2.2.2.1 x.2.1) (fun r => ([.dat yi r.1, .dat .bool r.2.1], [(64, .perm false 22 3 yi r.2.2.1 r.2.2.2)]))
noncomputable def wui : Env := waa []
noncomputable def wuj : List (Nat × LD) := [(0, wwu), (2, wwv), (6, www), (8, wwx), (4, wwy)]
noncomputable def wuk : Code := (f136.body).getD .skip
noncomputable def waed (rec_ : (Int) → (Int) → (Int) → (Ye) → Yd → Option Yd) (k : Ye) (v : Int × (Int × (Int × (Bool × (Bool × Yd))))) : Tr ((Int × (Int × (Int × (Bool × (Bool × Yd))))) ⊕ Yd) :=
 .t (decide ((wrap .i64 (v.2.1 - v.1)) ≤ (12 : Int)))
 (.c Yd (wbam v.1 v.2.1 k v.2.2.2.2.2) fun r8_ =>
 .l (.inr r8_))
 (.t (v.2.2.1 == 0)
 (.f)
 (.t (!v.2.2.2.1)
 (.c Yd (wbas v.1 v.2.1 k v.2.2.2.2.2) fun r9_ =>
 .c Yc (wapy (wgc r9_.1 r9_.2) v.1 v.2.1 k) fun r10_ =>
 .t (r10_.2 == 2)
 (.f)
 (.t v.2.2.2.1
 (.t v.2.2.2.2.1
 (.t (r10_.2 == 1)
 (.f)
 (.t (decide (0 < v.1))
 (.g (inR (wrap .i64 (v.1 - 1)) (length r9_.1)) <|
 .g (decide ((toNat (wrap .i64 (v.1 - 1))) < length r9_.1) && decide ((getD r9_.1 (toNat (wrap .i64 (v.1 - 1))) 0) < length r9_.2)) <|
 .g (inR r10_.1 (length r9_.1)) <|
 .g (decide ((toNat r10_.1) < length r9_.1) && decide ((getD r9_.1 (toNat r10_.1) 0) < length r9_.2)) <|
 .c (Int) (k ((getD r9_.2 (getD r9_.1 (toNat (wrap .i64 (v.1 - 1))) 0) ([] : Y1)), ((getD r9_.2 (getD r9_.1 (toNat r10_.1) 0) ([] : Y1)), ()))) fun r11_ =>
 .t (!(decide (r11_ < 0)))
 (.f)
 (.c Yo (wiq v.1 v.2.1 r10_.1 k r9_) fun r12_ =>
 .g (!decide ((8 : Int) = 0)) <|
 .t (decide ((wrap .i64 (r12_.1 - v.1)) < (wrap .i64 (v.2.1 - r12_.1))))
 (.c Yd (rec_ v.1 r12_.1 (wrap .i64 (v.2.2.1 - 1)) k r12_.2.2) fun r13_ =>
 .l (.inl ((wrap .i64 (r12_.1 + 1)), (v.2.1, ((wrap .i64 (v.2.2.1 - 1)), ((decide ((wrap .i64 (Int.tdiv (wrap .i64 (v.2.1 - v.1)) (8 : Int))) ≤ (wrap .i64 (r12_.1 - v.1)))), (r12_.2.1, r13_)))))))
 (.c Yd (rec_ (wrap .i64 (r12_.1 + 1)) v.2.1 (wrap .i64 (v.2.2.1 - 1)) k r12_.2.2) fun r14_ =>
 .l (.inl (v.1, (r12_.1, ((wrap .i64 (v.2.2.1 - 1)), ((decide ((wrap .i64 (Int.tdiv (wrap .i64 (v.2.1 - v.1)) (8 : Int))) ≤ (wrap .i64 (v.2.1 - r12_.1)))), (r12_.2.1, r14_)))))))))
 (.c Yo (wiq v.1 v.2.1 r10_.1 k r9_) fun r15_ =>
 .g (!decide ((8 : Int) = 0)) <|
 .t (decide ((wrap .i64 (r15_.1 - v.1)) < (wrap .i64 (v.2.1 - r15_.1))))
 (.c Yd (rec_ v.1 r15_.1 (wrap .i64 (v.2.2.1 - 1)) k r15_.2.2) fun r16_ =>
 .l (.inl ((wrap .i64 (r15_.1 + 1)), (v.2.1, ((wrap .i64 (v.2.2.1 - 1)), ((decide ((wrap .i64 (Int.tdiv (wrap .i64 (v.2.1 - v.1)) (8 : Int))) ≤ (wrap .i64 (r15_.1 - v.1)))), (r15_.2.1, r16_)))))))
 (.c Yd (rec_ (wrap .i64 (r15_.1 + 1)) v.2.1 (wrap .i64 (v.2.2.1 - 1)) k r15_.2.2) fun r17_ =>
 .l (.inl (v.1, (r15_.1, ((wrap .i64 (v.2.2.1 - 1)), ((decide ((wrap .i64 (Int.tdiv (wrap .i64 (v.2.1 - v.1)) (8 : Int))) ≤ (wrap .i64 (v.2.1 - r15_.1)))), (r15_.2.1, r17_))))))))))
 (.t (decide (0 < v.1))
 (.g (inR (wrap .i64 (v.1 - 1)) (length r9_.1)) <|
 .g (decide ((toNat (wrap .i64 (v.1 - 1))) < length r9_.1) && decide ((getD r9_.1 (toNat (wrap .i64 (v.1 - 1))) 0) < length r9_.2)) <|
 .g (inR r10_.1 (length r9_.1)) <|
 .g (decide ((toNat r10_.1) < length r9_.1) && decide ((getD r9_.1 (toNat r10_.1) 0) < length r9_.2)) <|
 .c (Int) (k ((getD r9_.2 (getD r9_.1 (toNat (wrap .i64 (v.1 - 1))) 0) ([] : Y1)), ((getD r9_.2 (getD r9_.1 (toNat r10_.1) 0) ([] : Y1)), ()))) fun r18_ =>
 .t (!(decide (r18_ < 0)))
 (.f)
 (.c Yo (wiq v.1 v.2.1 r10_.1 k r9_) fun r19_ =>
 .g (!decide ((8 : Int) = 0)) <|
 .t (decide ((wrap .i64 (r19_.1 - v.1)) < (wrap .i64 (v.2.1 - r19_.1))))
 (.c Yd (rec_ v.1 r19_.1 (wrap .i64 (v.2.2.1 - 1)) k r19_.2.2) fun r20_ =>
 .l (.inl ((wrap .i64 (r19_.1 + 1)), (v.2.1, ((wrap .i64 (v.2.2.1 - 1)), ((decide ((wrap .i64 (Int.tdiv (wrap .i64 (v.2.1 - v.1)) (8 : Int))) ≤ (wrap .i64 (r19_.1 - v.1)))), (r19_.2.1, r20_)))))))
 (.c Yd (rec_ (wrap .i64 (r19_.1 + 1)) v.2.1 (wrap .i64 (v.2.2.1 - 1)) k r19_.2.2) fun r21_ =>
 .l (.inl (v.1, (r19_.1, ((wrap .i64 (v.2.2.1 - 1)), ((decide ((wrap .i64 (Int.tdiv (wrap .i64 (v.2.1 - v.1)) (8 : Int))) ≤ (wrap .i64 (v.2.1 - r19_.1)))), (r19_.2.1, r21_)))))))))
 (.c Yo (wiq v.1 v.2.1 r10_.1 k r9_) fun r22_ =>
 .g (!decide ((8 : Int) = 0)) <|
 .t (decide ((wrap .i64 (r22_.1 - v.1)) < (wrap .i64 (v.2.1 - r22_.1))))
 (.c Yd (rec_ v.1 r22_.1 (wrap .i64 (v.2.2.1 - 1)) k r22_.2.2) fun r23_ =>
 .l (.inl ((wrap .i64 (r22_.1 + 1)), (v.2.1, ((wrap .i64 (v.2.2.1 - 1)), ((decide ((wrap .i64 (Int.tdiv (wrap .i64 (v.2.1 - v.1)) (8 : Int))) ≤ (wrap .i64 (r22_.1 - v.1)))), (r22_.2.1, r23_)))))))
 (.c Yd (rec_ (wrap .i64 (r22_.1 + 1)) v.2.1 (wrap .i64 (v.2.2.1 - 1)) k r22_.2.2) fun r24_ =>
 .l (.inl (v.1, (r22_.1, ((wrap .i64 (v.2.2.1 - 1)), ((decide ((wrap .i64 (Int.tdiv (wrap .i64 (v.2.1 - v.1)) (8 : Int))) ≤ (wrap .i64 (v.2.1 - r22_.1)))), (r22_.2.1, r24_))))))))))
 (.t (decide (0 < v.1))
 (.g (inR (wrap .i64 (v.1 - 1)) (length r9_.1)) <|
 .g (decide ((toNat (wrap .i64 (v.1 - 1))) < length r9_.1) && decide ((getD r9_.1 (toNat (wrap .i64 (v.1 - 1))) 0) < length r9_.2)) <|
 .g (inR r10_.1 (length r9_.1)) <|
 .g (decide ((toNat r10_.1) < length r9_.1) && decide ((getD r9_.1 (toNat r10_.1) 0) < length r9_.2)) <|
 .c (Int) (k ((getD r9_.2 (getD r9_.1 (toNat (wrap .i64 (v.1 - 1))) 0) ([] : Y1)), ((getD r9_.2 (getD r9_.1 (toNat r10_.1) 0) ([] : Y1)), ()))) fun r25_ =>
 .t (!(decide (r25_ < 0)))
 (.f)
 (.c Yo (wiq v.1 v.2.1 r10_.1 k r9_) fun r26_ =>
 .g (!decide ((8 : Int) = 0)) <|
 .t (decide ((wrap .i64 (r26_.1 - v.1)) < (wrap .i64 (v.2.1 - r26_.1))))
 (.c Yd (rec_ v.1 r26_.1 (wrap .i64 (v.2.2.1 - 1)) k r26_.2.2) fun r27_ =>
 .l (.inl ((wrap .i64 (r26_.1 + 1)), (v.2.1, ((wrap .i64 (v.2.2.1 - 1)), ((decide ((wrap .i64 (Int.tdiv (wrap .i64 (v.2.1 - v.1)) (8 : Int))) ≤ (wrap .i64 (r26_.1 - v.1)))), (r26_.2.1, r27_)))))))
 (.c Yd (rec_ (wrap .i64 (r26_.1 + 1)) v.2.1 (wrap .i64 (v.2.2.1 - 1)) k r26_.2.2) fun r28_ =>
 .l (.inl (v.1, (r26_.1, ((wrap .i64 (v.2.2.1 - 1)), ((decide ((wrap .i64 (Int.tdiv (wrap .i64 (v.2.1 - v.1)) (8 : Int))) ≤ (wrap .i64 (v.2.1 - r26_.1)))), (r26_.2.1, r28_)))))))))
 (.c Yo (wiq v.1 v.2.1 r10_.1 k r9_) fun r29_ =>
 .g (!decide ((8 : Int) = 0)) <|
 .t (decide ((wrap .i64 (r29_.1 - v.1)) < (wrap .i64 (v.2.1 - r29_.1))))
 (.c Yd (rec_ v.1 r29_.1 (wrap .i64 (v.2.2.1 - 1)) k r29_.2.2) fun r30_ =>
 .l (.inl ((wrap .i64 (r29_.1 + 1)), (v.2.1, ((wrap .i64 (v.2.2.1 - 1)), ((decide ((wrap .i64 (Int.tdiv (wrap .i64 (v.2.1 - v.1)) (8 : Int))) ≤ (wrap .i64 (r29_.1 - v.1)))), (r29_.2.1, r30_)))))))
 (.c Yd (rec_ (wrap .i64 (r29_.1 + 1)) v.2.1 (wrap .i64 (v.2.2.1 - 1)) k r29_.2.2) fun r31_ =>
 .l (.inl (v.1, (r29_.1, ((wrap .i64 (v.2.2.1 - 1)), ((decide ((wrap .i64 (Int.tdiv (wrap .i64 (v.2.1 - v.1)) (8 : Int))) ≤ (wrap .i64 (v.2.1 - r29_.1)))), (r29_.2.1, r31_)))))))))))
 (.c Yc (wapy (wgc v.2.2.2.2.2.1 v.2.2.2.2.2.2) v.1 v.2.1 k) fun r32_ =>
 .t (r32_.2 == 2)
 (.f)
 (.t v.2.2.2.1
 (.t v.2.2.2.2.1
 (.t (r32_.2 == 1)
 (.f)
 (.t (decide (0 < v.1))
 (.g (inR (wrap .i64 (v.1 - 1)) (length v.2.2.2.2.2.1)) <|
 .g (decide ((toNat (wrap .i64 (v.1 - 1))) < length v.2.2.2.2.2.1) && decide ((getD v.2.2.2.2.2.1 (toNat (wrap .i64 (v.1 - 1))) 0) < length v.2.2.2.2.2.2)) <|
 .g (inR r32_.1 (length v.2.2.2.2.2.1)) <|
 .g (decide ((toNat r32_.1) < length v.2.2.2.2.2.1) && decide ((getD v.2.2.2.2.2.1 (toNat r32_.1) 0) < length v.2.2.2.2.2.2)) <|
 .c (Int) (k ((getD v.2.2.2.2.2.2 (getD v.2.2.2.2.2.1 (toNat (wrap .i64 (v.1 - 1))) 0) ([] : Y1)), ((getD v.2.2.2.2.2.2 (getD v.2.2.2.2.2.1 (toNat r32_.1) 0) ([] : Y1)), ()))) fun r33_ =>
 .t (!(decide (r33_ < 0)))
 (.f)
 (.c Yo (wiq v.1 v.2.1 r32_.1 k v.2.2.2.2.2) fun r34_ =>
 .g (!decide ((8 : Int) = 0)) <|
 .t (decide ((wrap .i64 (r34_.1 - v.1)) < (wrap .i64 (v.2.1 - r34_.1))))
 (.c Yd (rec_ v.1 r34_.1 v.2.2.1 k r34_.2.2) fun r35_ =>
 .l (.inl ((wrap .i64 (r34_.1 + 1)), (v.2.1, (v.2.2.1, ((decide ((wrap .i64 (Int.tdiv (wrap .i64 (v.2.1 - v.1)) (8 : Int))) ≤ (wrap .i64 (r34_.1 - v.1)))), (r34_.2.1, r35_)))))))
 (.c Yd (rec_ (wrap .i64 (r34_.1 + 1)) v.2.1 v.2.2.1 k r34_.2.2) fun r36_ =>
 .l (.inl (v.1, (r34_.1, (v.2.2.1, ((decide ((wrap .i64 (Int.tdiv (wrap .i64 (v.2.1 - v.1)) (8 : Int))) ≤ (wrap .i64 (v.2.1 - r34_.1)))), (r34_.2.1, r36_)))))))))
 (.c Yo (wiq v.1 v.2.1 r32_.1 k v.2.2.2.2.2) fun r37_ =>
 .g (!decide ((8 : Int) = 0)) <|
 .t (decide ((wrap .i64 (r37_.1 - v.1)) < (wrap .i64 (v.2.1 - r37_.1))))
 (.c Yd (rec_ v.1 r37_.1 v.2.2.1 k r37_.2.2) fun r38_ =>
 .l (.inl ((wrap .i64 (r37_.1 + 1)), (v.2.1, (v.2.2.1, ((decide ((wrap .i64 (Int.tdiv (wrap .i64 (v.2.1 - v.1)) (8 : Int))) ≤ (wrap .i64 (r37_.1 - v.1)))), (r37_.2.1, r38_)))))))
 (.c Yd (rec_ (wrap .i64 (r37_.1 + 1)) v.2.1 v.2.2.1 k r37_.2.2) fun r39_ =>
 .l (.inl (v.1, (r37_.1, (v.2.2.1, ((decide ((wrap .i64 (Int.tdiv (wrap .i64 (v.2.1 - v.1)) (8 : Int))) ≤ (wrap .i64 (v.2.1 - r37_.1)))), (r37_.2.1, r39_))))))))))
 (.t (decide (0 < v.1))
 (.g (inR (wrap .i64 (v.1 - 1)) (length v.2.2.2.2.2.1)) <|
 .g (decide ((toNat (wrap .i64 (v.1 - 1))) < length v.2.2.2.2.2.1) && decide ((getD v.2.2.2.2.2.1 (toNat (wrap .i64 (v.1 - 1))) 0) < length v.2.2.2.2.2.2)) <|
 .g (inR r32_.1 (length v.2.2.2.2.2.1)) <|
 .g (decide ((toNat r32_.1) < length v.2.2.2.2.2.1) && decide ((getD v.2.2.2.2.2.1 (toNat r32_.1) 0) < length v.2.2.2.2.2.2)) <|
 .c (Int) (k ((getD v.2.2.2.2.2.2 (getD v.2.2.2.2.2.1 (toNat (wrap .i64 (v.1 - 1))) 0) ([] : Y1)), ((getD v.2.2.2.2.2.2 (getD v.2.2.2.2.2.1 (toNat r32_.1) 0) ([] : Y1)), ()))) fun r40_ =>
 .t (!(decide (r40_ < 0)))
 (.f)
 (.c Yo (wiq v.1 v.2.1 r32_.1 k v.2.2.2.2.2) fun r41_ =>
 .g (!decide ((8 : Int) = 0)) <|
 .t (decide ((wrap .i64 (r41_.1 - v.1)) < (wrap .i64 (v.2.1 - r41_.1))))
 (.c Yd (rec_ v.1 r41_.1 v.2.2.1 k r41_.2.2) fun r42_ =>
 .l (.inl ((wrap .i64 (r41_.1 + 1)), (v.2.1, (v.2.2.1, ((decide ((wrap .i64 (Int.tdiv (wrap .i64 (v.2.1 - v.1)) (8 : Int))) ≤ (wrap .i64 (r41_.1 - v.1)))), (r41_.2.1, r42_)))))))
 (.c Yd (rec_ (wrap .i64 (r41_.1 + 1)) v.2.1 v.2.2.1 k r41_.2.2) fun r43_ =>
 .l (.inl (v.1, (r41_.1, (v.2.2.1, ((decide ((wrap .i64 (Int.tdiv (wrap .i64 (v.2.1 - v.1)) (8 : Int))) ≤ (wrap .i64 (v.2.1 - r41_.1)))), (r41_.2.1, r43_)))))))))
 (.c Yo (wiq v.1 v.2.1 r32_.1 k v.2.2.2.2.2) fun r44_ =>
 .g (!decide ((8 : Int) = 0)) <|
 .t (decide ((wrap .i64 (r44_.1 - v.1)) < (wrap .i64 (v.2.1 - r44_.1))))
 (.c Yd (rec_ v.1 r44_.1 v.2.2.1 k r44_.2.2) fun r45_ =>
 .l (.inl ((wrap .i64 (r44_.1 + 1)), (v.2.1, (v.2.2.1, ((decide ((wrap .i64 (Int.tdiv (wrap .i64 (v.2.1 - v.1)) (8 : Int))) ≤ (wrap .i64 (r44_.1 - v.1)))), (r44_.2.1, r45_)))))))
 (.c Yd (rec_ (wrap .i64 (r44_.1 + 1)) v.2.1 v.2.2.1 k r44_.2.2) fun r46_ =>
 .l (.inl (v.1, (r44_.1, (v.2.2.1, ((decide ((wrap .i64 (Int.tdiv (wrap .i64 (v.2.1 - v.1)) (8 : Int))) ≤ (wrap .i64 (v.2.1 - r44_.1)))), (r44_.2.1, r46_))))))))))
 (.t (decide (0 < v.1))
 (.g (inR (wrap .i64 (v.1 - 1)) (length v.2.2.2.2.2.1)) <|
 .g (decide ((toNat (wrap .i64 (v.1 - 1))) < length v.2.2.2.2.2.1) && decide ((getD v.2.2.2.2.2.1 (toNat (wrap .i64 (v.1 - 1))) 0) < length v.2.2.2.2.2.2)) <|
 .g (inR r32_.1 (length v.2.2.2.2.2.1)) <|
 .g (decide ((toNat r32_.1) < length v.2.2.2.2.2.1) && decide ((getD v.2.2.2.2.2.1 (toNat r32_.1) 0) < length v.2.2.2.2.2.2)) <|
 .c (Int) (k ((getD v.2.2.2.2.2.2 (getD v.2.2.2.2.2.1 (toNat (wrap .i64 (v.1 - 1))) 0) ([] : Y1)), ((getD v.2.2.2.2.2.2 (getD v.2.2.2.2.2.1 (toNat r32_.1) 0) ([] : Y1)), ()))) fun r47_ =>
 .t (!(decide (r47_ < 0)))
 (.f)
 (.c Yo (wiq v.1 v.2.1 r32_.1 k v.2.2.2.2.2) fun r48_ =>
 .g (!decide ((8 : Int) = 0)) <|
 .t (decide ((wrap .i64 (r48_.1 - v.1)) < (wrap .i64 (v.2.1 - r48_.1))))
 (.c Yd (rec_ v.1 r48_.1 v.2.2.1 k r48_.2.2) fun r49_ =>
 .l (.inl ((wrap .i64 (r48_.1 + 1)), (v.2.1, (v.2.2.1, ((decide ((wrap .i64 (Int.tdiv (wrap .i64 (v.2.1 - v.1)) (8 : Int))) ≤ (wrap .i64 (r48_.1 - v.1)))), (r48_.2.1, r49_)))))))
 (.c Yd (rec_ (wrap .i64 (r48_.1 + 1)) v.2.1 v.2.2.1 k r48_.2.2) fun r50_ =>
 .l (.inl (v.1, (r48_.1, (v.2.2.1, ((decide ((wrap .i64 (Int.tdiv (wrap .i64 (v.2.1 - v.1)) (8 : Int))) ≤ (wrap .i64 (v.2.1 - r48_.1)))), (r48_.2.1, r50_)))))))))
 (.c Yo (wiq v.1 v.2.1 r32_.1 k v.2.2.2.2.2) fun r51_ =>
 .g (!decide ((8 : Int) = 0)) <|
 .t (decide ((wrap .i64 (r51_.1 - v.1)) < (wrap .i64 (v.2.1 - r51_.1))))
 (.c Yd (rec_ v.1 r51_.1 v.2.2.1 k r51_.2.2) fun r52_ =>
 .l (.inl ((wrap .i64 (r51_.1 + 1)), (v.2.1, (v.2.2.1, ((decide ((wrap .i64 (Int.tdiv (wrap .i64 (v.2.1 - v.1)) (8 : Int))) ≤ (wrap .i64 (r51_.1 - v.1)))), (r51_.2.1, r52_)))))))
 (.c Yd (rec_ (wrap .i64 (r51_.1 + 1)) v.2.1 v.2.2.1 k r51_.2.2) fun r53_ =>
 .l (.inl (v.1, (r51_.1, (v.2.2.1, ((decide ((wrap .i64 (Int.tdiv (wrap .i64 (v.2.1 - v.1)) (8 : Int))) ≤ (wrap .i64 (v.2.1 - r51_.1)))), (r51_.2.1, r53_)))))))))))))
noncomputable def waqg (rec_ : (Int) → (Int) → (Int) → (Ye) → Yd → Option Yd) (k : Ye) (v : Int × (Int × (Int × (Bool × (Bool × Yd))))) : Option Yd := iter (fun v => (waed rec_ k v).ev) v
noncomputable def wwz (rec_ : (Int) → (Int) → (Int) → (Ye) → Yd → Option Yd) : LD where
 head := { acts := [], S := { slots := [0, 1, 2, 3, 4, 10, 11], sh := (yj [.arr 64, .dat yi, .dat yi, .dat yi, .clo [y1, y1] yi, .dat .bool, .dat .bool]), obs := [Zi] } }
 exits := []
 rets := { acts := [], S := { slots := [0], sh := Zq, obs := [Zi] } }
 K := Ye
 V := Int × (Int × (Int × (Bool × (Bool × Yd))))
 R := (List Nat) × Y2
 join := fun k v => (((), (v.1, (v.2.1, (v.2.2.1, (k, (v.2.2.2.1, (v.2.2.2.2.1, ()))))))), (v.2.2.2.2.2, ()))
 sk := fun t => t.1.2.2.2.2.1
 sv := fun t => (t.1.2.1, (t.1.2.2.1, (t.1.2.2.2.1, (t.1.2.2.2.2.2.1, (t.1.2.2.2.2.2.2.1, t.2.1)))))
 step := waed rec_
 leaf := fun _ r => .l (.ret (wbj ({ slots := [0], sh := Zq, obs := [Zi] }) (((), ()), (r, ()))))
noncomputable def wbay (rec_ : (Int) → (Int) → (Int) → (Ye) → Yd → Option Yd) (a2_ : Int) (a3_ : Int) (a4_ : Int) (a5_ : Ye) (a1_ : (List Nat) × Y2) : Tr Yd :=
 .c Yd (waqg rec_ a5_ (a2_, (a3_, (a4_, (true, (true, a1_)))))) fun r55_ =>
 .l r55_
noncomputable def wul : Nat → (Int) → (Int) → (Int) → (Ye) → Yd → Option Yd
 | 0 => fun _ _ _ _ _ => none
 | n + 1 => fun a2_ a3_ a4_ a5_ a1_ => (wbay (wul n) a2_ a3_ a4_ a5_ a1_).ev
noncomputable def wbgw : RetK := { acts := [], res := [], sh := .nil, obs := [Zi], pins := [(0, 0, 64)] }
noncomputable def wamy (rec_ : (Int) → (Int) → (Int) → (Ye) → Yd → Option Yd) : FD where
 A := (yj [.arr 64, .dat yi, .dat yi, .dat yi, .clo [y1, y1] yi])
 ins := [Zi]
 lend := [.arg 0]
 R := (List Nat) × Y2
 F := fun x => rec_ x.1.2.1 x.1.2.2.1 x.1.2.2.2.1 x.1.2.2.2.2.1 x.2.1
 emb := fun r => ([], [(64, .perm false 22 3 yi r.1 r.2)])
noncomputable def waqh (n : Nat) : FD := wamy (wul n)
noncomputable def waqi (rec_ : (Int) → (Int) → (Int) → (Ye) → Yd → Option Yd) : Env := waa [(129, wapo), (131, waps), (132, wapz), (136, waqf), (111, wamy rec_)]
noncomputable def waqj (rec_ : (Int) → (Int) → (Int) → (Ye) → Yd → Option Yd) : List (Nat × LD) := [(0, wwz rec_)]
noncomputable def waqk : Code := (f111.body).getD .skip
noncomputable def wbaz (a2_ : Ye) (a1_ : (List Nat) × Y2) : Tr Yd :=
 .c (Int) (wapl (wrap .u64 ((length a1_.1 : Nat) : Int))) fun r1_ =>
 .c Yd (wul 1000000 (0 : Int) ((length a1_.1 : Nat) : Int) r1_ a2_ a1_) fun r2_ =>
 .l r2_
noncomputable def wbba (a2_ : Ye) (a1_ : (List Nat) × Y2) : Option Yd := (wbaz a2_ a1_).ev
noncomputable def wbgx : RetK := { acts := [], res := [], sh := .nil, obs := [Zi], pins := [(0, 0, 64)] }
noncomputable def wajm : FD := yd (yj [.arr 64, .clo [y1, y1] yi]) [Zi] [.arg 0] Yd (fun x => wbba x.1.2.1 x.2.1) (fun r => ([], [(64, .perm false 22 3 yi r.1 r.2)]))
noncomputable def T_zc (a1_ : Int) : Tr (Bool) :=
 .l (a1_ != a1_)
noncomputable def F_zc (a1_ : Int) : Option (Bool) := (T_zc a1_).ev
noncomputable def K_zc : RetK := yr [.tmp 2] Zj
noncomputable def D_zc : FD := yd Zf [] [] Bool (fun x => F_zc x.1.1) (fun r => ([.dat .bool r], []))
noncomputable def T_za (a1_ : Int) (a2_ : Int) : Tr (Int) :=
 .c (Bool) (F_zc a1_) fun r1_ =>
 .c (Bool) (F_zc a2_) fun r2_ =>
 .t r1_
 (.t r2_
 (.l (0 : Int))
 (.l (-1 : Int)))
 (.t r2_
 (.l (1 : Int))
 (.t (decide (a1_ < a2_))
 (.l (-1 : Int))
 (.t (decide (a2_ < a1_))
 (.l (1 : Int))
 (.l (0 : Int)))))
noncomputable def F_za (a1_ : Int) (a2_ : Int) : Option (Int) := (T_za a1_ a2_).ev
noncomputable def K_za : RetK := yr [.tmp 4] Zf
noncomputable def D_za : FD := yd Zm [] [] Int (fun x => F_za x.1.1 x.1.2.1) (fun r => ([.dat yi r], []))
noncomputable def waee (k : Y1 × (Y1 × (Y1 × Int))) (v : Int) : Tr ((Int) ⊕ ((Unit) ⊕ (Int))) :=
 .t (decide (v < k.2.2.2))
 (.g (inR v (length k.2.2.1)) <|
 .t (decide (((length k.2.1 : Nat) : Int) ≤ v))
 (.l (.inr (.inr (1 : Int))))
 (.g (inR v (length k.2.1)) <|
 .c (Int) (F_za (getD k.2.2.1 (toNat v) 0) (getD k.2.1 (toNat v) 0)) fun r6_ =>
 .t (r6_ != (0 : Int))
 (.l (.inr (.inr r6_)))
 (.l (.inl (wrap .i64 (v + 1))))))
 (.l (.inr (.inl ())))
noncomputable def waqm (k : Y1 × (Y1 × (Y1 × Int))) (v : Int) : Option ((Unit) ⊕ (Int)) := iter (fun v => (waee k v).ev) v
noncomputable def wxa : LD := ⟨(yh [0, 1, 9, 10, 11] (yj [.dat y1, .dat y1, .dat y1, .dat yi, .dat yi])), [(0, (yh [0, 1] (yj [.dat y1, .dat y1])))], (yh [4] Zf), Y1 × (Y1 × (Y1 × Int)), Int, (Unit) ⊕ (Int), fun k v => ((k.1, (k.2.1, (k.2.2.1, (k.2.2.2, (v, ()))))), ()), fun t => (t.1.1, (t.1.2.1, (t.1.2.2.1, t.1.2.2.2.1))), fun t => t.1.2.2.2.2.1, waee, fun k r => .s (Unit) (Int) r (fun _ => .l (.exit 0 (wbj ((ys [0, 1] (yj [.dat y1, .dat y1]))) ((k.1, (k.2.1, ())), ())))) (fun b => .l (.ret (wbj ((ys [4] Zf)) ((b, ()), ()))))⟩
noncomputable def wbbd (a1_ : Y1) (a2_ : Y1) : Tr (Int) :=
 .c ((Unit) ⊕ (Int)) (waqm (a1_, (a2_, (a1_, ((length a1_ : Nat) : Int)))) (0 : Int)) fun r10_ =>
 .s (Unit) (Int) r10_
 (fun _ => .t (decide (((length a1_ : Nat) : Int) < ((length a2_ : Nat) : Int)))
 (.l (-1 : Int))
 (.l (0 : Int)))
 (fun r12_ => .l r12_)
noncomputable def wbbe (a1_ : Y1) (a2_ : Y1) : Option (Int) := (wbbd a1_ a2_).ev
noncomputable def wbhb : RetK := yr [.tmp 4] Zf
noncomputable def waqn : FD := yd (yj [.dat y1, .dat y1]) [] [] Int (fun x => wbbe x.1.1 x.1.2.1) (fun r => ([.dat yi r], []))
noncomputable def waqo : Env := waa [(66, D_za)]
noncomputable def waqp : List (Nat × LD) := [(0, wxa)]
noncomputable def waqq : Code := (f113.body).getD .skip
noncomputable def weu (k : Int × (Y1 × Int)) (v : Int) : Tr ((Int) ⊕ ((Unit) ⊕ (Int))) :=
 .t (decide (v < k.2.2))
 (.g (inR v (length k.2.1)) <|
 .t ((getD k.2.1 (toNat v) 0) != k.1)
 (.l (.inr (.inr (getD k.2.1 (toNat v) 0))))
 (.l (.inl (wrap .i64 (v + 1)))))
 (.l (.inr (.inl ())))
noncomputable def wamz (k : Int × (Y1 × Int)) (v : Int) : Option ((Unit) ⊕ (Int)) := iter (fun v => (weu k v).ev) v
noncomputable def waef : LD := ⟨(yh [3, 6, 7, 8] (yj [.dat yi, .dat y1, .dat yi, .dat yi])), [(0, (yh [3] Zf))], (yh [2] Zf), Int × (Y1 × Int), Int, (Unit) ⊕ (Int), fun k v => ((k.1, (k.2.1, (k.2.2, (v, ())))), ()), fun t => (t.1.1, (t.1.2.1, t.1.2.2.1)), fun t => t.1.2.2.2.1, weu, fun k r => .s (Unit) (Int) r (fun _ => .l (.exit 0 (wbj ((ys [3] Zf)) ((k.1, ()), ())))) (fun b => .l (.ret (wbj ((ys [2] Zf)) ((b, ()), ()))))⟩
noncomputable def T_zb (a1_ : Y1) : Tr (Int) :=
 .c ((Unit) ⊕ (Int)) (wamz ((0 : Int), (a1_, ((length a1_ : Nat) : Int))) (0 : Int)) fun r7_ =>
 .s (Unit) (Int) r7_
 (fun _ => .l (0 : Int))
 (fun r9_ => .l r9_)
noncomputable def F_zb (a1_ : Y1) : Option (Int) := (T_zb a1_).ev
noncomputable def K_zb : RetK := yr [.tmp 2] Zf
noncomputable def D_zb : FD := yd (yj [.dat y1]) [] [] Int (fun x => F_zb x.1.1) (fun r => ([.dat yi r], []))
noncomputable def E_zb : Env := waa []
noncomputable def O_zb : List (Nat × LD) := [(0, waef)]
noncomputable def C_zb : Code := (f65.body).getD .skip
noncomputable def T_zw (a1_ : Y1) (a2_ : Y1) : Tr (Int) :=
 .c (Int) (F_za ((length a1_ : Nat) : Int) ((length a2_ : Nat) : Int)) fun r1_ =>
 .c (Int) (wbbe a1_ a2_) fun r2_ =>
 .c (Int) (F_zb ([r1_, r2_] : Y1)) fun r3_ =>
 .l r3_
noncomputable def F_zw (a1_ : Y1) (a2_ : Y1) : Option (Int) := (T_zw a1_ a2_).ev
noncomputable def K_zw : RetK := yr [.tmp 4] Zf
noncomputable def D_zw : FD := yd (yj [.dat y1, .dat y1]) [] [] Int (fun x => F_zw x.1.1 x.1.2.1) (fun r => ([.dat yi r], []))
noncomputable def wana (k : Int) (v : Int × Y2) : Tr ((Int × Y2) ⊕ Y2) :=
 .g (decide (0 ≤ k)) <|
 .t (decide (v.1 < (wrap .u64 ((1 : Int) * 2 ^ (min (toNat k) Zb)))))
 (.c Y1 (F_zu v.1) fun r4_ =>
 .g (decide ((length v.2 + 1) * 24 ≤ 140737488355328)) <|
 .l (.inl ((wrap .u64 (v.1 + 1)), (set (v.2 ++ [[]]) (length v.2) r4_))))
 (.l (.inr v.2))
noncomputable def wbbg (k : Int) (v : Int × Y2) : Option Y2 := iter (fun v => (wana k v).ev) v
noncomputable def waeg : LD := ⟨{ acts := [], S := { slots := [0, 3, 4], sh := (yj [.dat yi, .arr 5, .dat (.int .u64)]), obs := [(5, .rows 22 3 yi)] } }, [(0, { acts := [], S := { slots := [3], sh := (yj [.arr 5]), obs := [(5, .rows 22 3 yi)] } })], (yh [] .nil), Int, Int × Y2, List Y1, fun k v => ((k, ((), (v.1, ()))), (v.2, ())), fun t => t.1.1, fun t => (t.1.2.2.1, t.2.1), wana, fun _ r => .l (.exit 0 (wbj ({ slots := [3], sh := (yj [.arr 5]), obs := [(5, .rows 22 3 yi)] }) (((), ()), (r, ()))))⟩
noncomputable def T_zz (a1_ : Int) : Tr Yd :=
 .c Y2 (wbbg a1_ ((1 : Int), ([] : List Y1))) fun r6_ =>
 .c Yd (wbba (fun h7_ => Option.bind (F_zw h7_.1 h7_.2.1) fun y8_ => some y8_) ((List.range (length r6_)), r6_)) fun r9_ =>
 .l r9_
noncomputable def F_zz (a1_ : Int) : Option Yd := (T_zz a1_).ev
noncomputable def K_zz : RetK := { acts := [.ren 5 0], res := [.tmp 2], sh := (yj [.arr 0]), obs := [(0, .perm 22 3 yi)], pins := [] }
noncomputable def D_zz : FD := yd Zf [] [] Yd (fun x => F_zz x.1.1) (fun r => ([.arr 0], [(0, .perm false 22 3 yi r.1 r.2)]))
def Z_zz : Nat → Nat → List Nat := fun r i => match look [(1, [(0, [1000000])]), (6, [(1, [80000017])])] r with
 | some l => (look l i).getD []
 | none => []
noncomputable def E_zz : Env := waa [(90, D_zu), (91, wajm), (91, wajm), (92, D_zw)]
noncomputable def O_zz : List (Nat × LD) := [(0, waeg)]
noncomputable def C_zz : Code := (f61.body).getD .skip
noncomputable def wrv (k : Int × (Y1 × (Int × Yl))) (v : Int × Int) : Tr (Yc ⊕ (Int)) :=
 .t (decide (v.2 < k.2.2.1))
 (.g (inR v.2 (length k.2.1)) <|
 .g (inR k.1 (length k.2.2.2.2)) <|
 .g (inR (getD k.2.1 (toNat v.2) 0) (length (getD k.2.2.2.2 (toNat k.1) ([] : Y1)))) <|
 .g (inR k.1 (length k.2.2.2.2)) <|
 .g (inR v.1 (length (getD k.2.2.2.2 (toNat k.1) ([] : Y1)))) <|
 .t (decide ((getD (getD k.2.2.2.2 (toNat k.1) ([] : Y1)) (toNat (getD k.2.1 (toNat v.2) 0)) (0 : Int)) < (getD (getD k.2.2.2.2 (toNat k.1) ([] : Y1)) (toNat v.1) (0 : Int))))
 (.l (.inl ((getD k.2.1 (toNat v.2) 0), (wrap .i64 (v.2 + 1)))))
 (.l (.inl (v.1, (wrap .i64 (v.2 + 1))))))
 (.l (.inr v.1))
noncomputable def wanc (k : Int × (Y1 × (Int × Yl))) (v : Int × Int) : Option (Int) := iter (fun v => (wrv k v).ev) v
noncomputable def waeh : LD := ⟨{ acts := [], S := { slots := [1, 3, 7, 13, 14, 15], sh := (yj [.dat yi, .box 3 0, .dat yi, .dat y1, .dat yi, .dat yi]), obs := [(3, .cells Zg)] } }, [(0, (yh [7] Zf))], (yh [] .nil), Int × (Y1 × (Int × Yl)), Int × (Int), Int, fun k v => ((k.1, ((), (v.1, (k.2.1, (k.2.2.1, (v.2, ())))))), ((k.2.2.2.1, (k.2.2.2.2, ())), ())), fun t => (t.1.1, (t.1.2.2.2.1, (t.1.2.2.2.2.1, (t.2.1.1, t.2.1.2.1)))), fun t => (t.1.2.2.1, t.1.2.2.2.2.2.1), wrv, fun _ r => .l (.exit 0 (wbj ((ys [7] Zf)) ((r, ()), ())))⟩
noncomputable def T_zj (a1_ : Y1) (a2_ : List Y1) (a3_ : Int) (a4_ : Y1) : Tr (Int) :=
 .g (inR 0 (length a4_)) <|
 .c (Int) (wanc (a3_, (a4_, (((length a4_ : Nat) : Int), (a1_, a2_)))) ((getD a4_ (toNat 0) 0), (0 : Int))) fun r9_ =>
 .l r9_
noncomputable def F_zj (a1_ : Y1) (a2_ : List Y1) (a3_ : Int) (a4_ : Y1) : Option (Int) := (T_zj a1_ a2_ a3_ a4_).ev
noncomputable def K_zj : RetK := yr [.tmp 6] Zf
noncomputable def D_zj : FD := yd (yj [.agg Zg, .dat yi, .dat y1]) [] [] Int (fun x => F_zj x.1.1.1 x.1.1.2.1 x.1.2.1 x.1.2.2.1) (fun r => ([.dat yi r], []))
noncomputable def E_zj : Env := waa []
noncomputable def O_zj : List (Nat × LD) := [(0, waeh)]
noncomputable def C_zj : Code := (f152.body).getD .skip
noncomputable def wrw (k : Y1 × (Int × Yl)) (v : Int × Y1) : Tr ((Int × Y1) ⊕ Y1) :=
 .t (decide (v.1 < k.2.1))
 (.c (Int) (F_zj k.2.2.1 k.2.2.2 v.1 k.1) fun r7_ =>
 .g (decide ((length v.2 + length ([r7_] : Y1)) * 8 ≤ 140737488355328)) <|
 .l (.inl ((wrap .i64 (v.1 + 1)), (v.2 ++ ([r7_] : Y1)))))
 (.l (.inr v.2))
noncomputable def wand (k : Y1 × (Int × Yl)) (v : Int × Y1) : Option Y1 := iter (fun v => (wrw k v).ev) v
noncomputable def waei : LD := ⟨{ acts := [], S := { slots := [1, 2, 5, 10, 11], sh := (yj [.dat y1, .box 2 0, .arr 7, .dat yi, .dat yi]), obs := [(2, .cells Zg), (7, .arr 3 yi)] } }, [(0, { acts := [], S := { slots := [5], sh := (yj [.arr 7]), obs := [(7, .arr 3 yi)] } })], (yh [] .nil), Y1 × (Int × Yl), Int × Y1, Y1, fun k v => ((k.1, ((), ((), (k.2.1, (v.1, ()))))), ((k.2.2.1, (k.2.2.2, ())), (v.2, ()))), fun t => (t.1.1, (t.1.2.2.2.1, (t.2.1.1, t.2.1.2.1))), fun t => (t.1.2.2.2.2.1, t.2.2.1), wrw, fun _ r => .l (.exit 0 (wbj ({ slots := [5], sh := (yj [.arr 7]), obs := [(7, .arr 3 yi)] }) (((), ()), (r, ()))))⟩
noncomputable def T_zi (a1_ : Y1) (a2_ : List Y1) (a3_ : Y1) : Tr Y1 :=
 .c Y1 (wand (a3_, (((length a2_ : Nat) : Int), (a1_, a2_))) ((0 : Int), ([] : Y1))) fun r9_ =>
 .l r9_
noncomputable def F_zi (a1_ : Y1) (a2_ : List Y1) (a3_ : Y1) : Option Y1 := (T_zi a1_ a2_ a3_).ev
noncomputable def K_zi : RetK := { acts := [.ren 7 0], res := [.tmp 4], sh := (yj [.arr 0]), obs := [(0, .arr 3 yi)], pins := [] }
noncomputable def D_zi : FD := yd (yj [.agg Zg, .dat y1]) [] [] Y1 (fun x => F_zi x.1.1.1 x.1.1.2.1 x.1.2.1) (fun r => ([.arr 0], [(0, .arr 3 yi r)]))
noncomputable def E_zi : Env := waa [(152, D_zj)]
noncomputable def O_zi : List (Nat × LD) := [(0, waei)]
noncomputable def C_zi : Code := (f128.body).getD .skip
noncomputable def wrx (k : Int × (Y1 × (Y2 × Y1))) (v : Int × Y1) : Tr ((Int × Y1) ⊕ Y1) :=
 .t (decide (v.1 < k.1))
 (.g (inR v.1 (length k.2.2.2)) <|
 .g (decide ((toNat v.1) < length k.2.2.2)) <|
 .g (inR v.1 (length k.2.2.1)) <|
 .g (inR (getD k.2.2.2 (toNat v.1) 0) (length (getD k.2.2.1 (toNat v.1) ([] : Y1)))) <|
 .g (decide ((length v.2 + length ([(getD (getD k.2.2.1 (toNat v.1) ([] : Y1)) (toNat (getD k.2.2.2 (toNat v.1) 0)) (0 : Int))] : Y1)) * 8 ≤ 140737488355328)) <|
 .l (.inl ((wrap .i64 (v.1 + 1)), (v.2 ++ ([(getD (getD k.2.2.1 (toNat v.1) ([] : Y1)) (toNat (getD k.2.2.2 (toNat v.1) 0)) (0 : Int))] : Y1)))))
 (.l (.inr v.2))
noncomputable def wane (k : Int × (Y1 × (Y2 × Y1))) (v : Int × Y1) : Option Y1 := iter (fun v => (wrx k v).ev) v
noncomputable def waej : LD := ⟨{ acts := [], S := { slots := [2, 5, 11, 12, 13], sh := (yj [.box 2 0, .arr 8, .arr 704, .dat yi, .dat yi]), obs := [(2, .cells Zg), (8, .arr 3 yi), (704, .arr 3 yi)] } }, [(0, { acts := [], S := { slots := [5], sh := (yj [.arr 8]), obs := [(8, .arr 3 yi)] } })], (yh [] .nil), Int × (Y1 × (Y2 × Y1)), Int × Y1, Y1, fun k v => (((), ((), ((), (k.1, (v.1, ()))))), ((k.2.1, (k.2.2.1, ())), (v.2, (k.2.2.2, ())))), fun t => (t.1.2.2.2.1, (t.2.1.1, (t.2.1.2.1, t.2.2.2.1))), fun t => (t.1.2.2.2.2.1, t.2.2.1), wrx, fun _ r => .l (.exit 0 (wbj ({ slots := [5], sh := (yj [.arr 8]), obs := [(8, .arr 3 yi)] }) (((), ()), (r, ()))))⟩
noncomputable def T_zf (a1_ : Y1) (a2_ : List Y1) (a3_ : Y1) : Tr Y1 :=
 .c Y1 (F_zi a1_ a2_ a3_) fun r1_ =>
 .c Y1 (wane (((length r1_ : Nat) : Int), (a1_, (a2_, r1_))) ((0 : Int), ([] : Y1))) fun r9_ =>
 .l r9_
noncomputable def F_zf (a1_ : Y1) (a2_ : List Y1) (a3_ : Y1) : Option Y1 := (T_zf a1_ a2_ a3_).ev
noncomputable def K_zf : RetK := { acts := [.ren 8 0], res := [.tmp 4], sh := (yj [.arr 0]), obs := [(0, .arr 3 yi)], pins := [] }
noncomputable def D_zf : FD := yd (yj [.agg Zg, .dat y1]) [] [] Y1 (fun x => F_zf x.1.1.1 x.1.1.2.1 x.1.2.1) (fun r => ([.arr 0], [(0, .arr 3 yi r)]))
noncomputable def E_zf : Env := waa [(128, D_zi)]
noncomputable def O_zf : List (Nat × LD) := [(0, waej)]
noncomputable def C_zf : Code := (f108.body).getD .skip
noncomputable def wlr (k : Y1 × Int) (v : Int × Int) : Tr (Yc ⊕ (Int)) :=
 .t (decide (v.2 < k.2))
 (.g (inR v.2 (length k.1)) <|
 .l (.inl ((wrap .i64 (v.1 + (getD k.1 (toNat v.2) 0))), (wrap .i64 (v.2 + 1)))))
 (.l (.inr v.1))
noncomputable def waek (k : Y1 × Int) (v : Int × Int) : Option (Int) := iter (fun v => (wlr k v).ev) v
noncomputable def wxb : LD := ⟨(yh [3, 6, 7, 8] (yj [.dat yi, .dat y1, .dat yi, .dat yi])), [(0, (yh [3] Zf))], (yh [] .nil), Y1 × (Int), Int × (Int), Int, fun k v => ((v.1, (k.1, (k.2, (v.2, ())))), ()), fun t => (t.1.2.1, t.1.2.2.1), fun t => (t.1.1, t.1.2.2.2.1), wlr, fun _ r => .l (.exit 0 (wbj ((ys [3] Zf)) ((r, ()), ())))⟩
noncomputable def waqr (a1_ : Y1) : Tr (Int) :=
 .c (Int) (waek (a1_, ((length a1_ : Nat) : Int)) ((0 : Int), (0 : Int))) fun r6_ =>
 .l r6_
noncomputable def wajn (a1_ : Y1) : Option (Int) := (waqr a1_).ev
noncomputable def wbhz : RetK := yr [.tmp 2] Zf
noncomputable def waqs : FD := yd (yj [.dat y1]) [] [] Int (fun x => wajn x.1.1) (fun r => ([.dat yi r], []))
noncomputable def waqt : Env := waa []
noncomputable def waqu : List (Nat × LD) := [(0, wxb)]
noncomputable def waqv : Code := (f42.body).getD .skip
noncomputable def T_zk (a1_ : Y1) (a2_ : List Y1) (a3_ : Y1) : Tr (Int) :=
 .c Y1 (F_zf a1_ a2_ a3_) fun r1_ =>
 .c (Int) (wajn r1_) fun r2_ =>
 .l r2_
noncomputable def F_zk (a1_ : Y1) (a2_ : List Y1) (a3_ : Y1) : Option (Int) := (T_zk a1_ a2_ a3_).ev
noncomputable def K_zk : RetK := yr [.tmp 4] Zf
noncomputable def D_zk : FD := yd (yj [.agg Zg, .dat y1]) [] [] Int (fun x => F_zk x.1.1.1 x.1.1.2.1 x.1.2.1) (fun r => ([.dat yi r], []))
noncomputable def wry (k : Y1 × (Int × Yl)) (v : Int × Int) : Tr (Yc ⊕ (Int)) :=
 .t (decide (v.2 < k.2.1))
 (.g (inR v.2 (length k.1)) <|
 .g (inR (getD k.1 (toNat v.2) 0) (length k.2.2.1)) <|
 .l (.inl ((wrap .i64 (v.1 + (getD k.2.2.1 (toNat (getD k.1 (toNat v.2) 0)) (0 : Int)))), (wrap .i64 (v.2 + 1)))))
 (.l (.inr v.1))
noncomputable def wanf (k : Y1 × (Int × Yl)) (v : Int × Int) : Option (Int) := iter (fun v => (wry k v).ev) v
noncomputable def wael : LD := ⟨{ acts := [], S := { slots := [2, 5, 8, 9, 10], sh := (yj [.box 2 0, .dat yi, .dat y1, .dat yi, .dat yi]), obs := [(2, .cells Zg)] } }, [(0, (yh [5] Zf))], (yh [] .nil), Y1 × (Int × Yl), Int × (Int), Int, fun k v => (((), (v.1, (k.1, (k.2.1, (v.2, ()))))), ((k.2.2.1, (k.2.2.2, ())), ())), fun t => (t.1.2.2.1, (t.1.2.2.2.1, (t.2.1.1, t.2.1.2.1))), fun t => (t.1.2.1, t.1.2.2.2.2.1), wry, fun _ r => .l (.exit 0 (wbj ((ys [5] Zf)) ((r, ()), ())))⟩
noncomputable def T_zg (a1_ : Y1) (a2_ : List Y1) (a3_ : Y1) : Tr (Int) :=
 .c (Int) (wanf (a3_, (((length a3_ : Nat) : Int), (a1_, a2_))) ((0 : Int), (0 : Int))) fun r8_ =>
 .l r8_
noncomputable def F_zg (a1_ : Y1) (a2_ : List Y1) (a3_ : Y1) : Option (Int) := (T_zg a1_ a2_ a3_).ev
noncomputable def K_zg : RetK := yr [.tmp 4] Zf
noncomputable def D_zg : FD := yd (yj [.agg Zg, .dat y1]) [] [] Int (fun x => F_zg x.1.1.1 x.1.1.2.1 x.1.2.1) (fun r => ([.dat yi r], []))
noncomputable def E_zg : Env := waa []
noncomputable def O_zg : List (Nat × LD) := [(0, wael)]
noncomputable def C_zg : Code := (f83.body).getD .skip
noncomputable def T_zl (a1_ : Y1) (a2_ : List Y1) (a3_ : Y1) : Tr (Int) :=
 .c (Int) (F_zg a1_ a2_ a3_) fun r1_ =>
 .c (Int) (F_zk a1_ a2_ a3_) fun r2_ =>
 .l (wrap .i64 (r1_ + r2_))
noncomputable def F_zl (a1_ : Y1) (a2_ : List Y1) (a3_ : Y1) : Option (Int) := (T_zl a1_ a2_ a3_).ev
noncomputable def K_zl : RetK := yr [.tmp 4] Zf
noncomputable def D_zl : FD := yd (yj [.agg Zg, .dat y1]) [] [] Int (fun x => F_zl x.1.1.1 x.1.1.2.1 x.1.2.1) (fun r => ([.dat yi r], []))
noncomputable def wir (k : Y1) (v : Int × Int) : Tr (Yc ⊕ (Int)) :=
 .t (decide (v.2 < ((length k : Nat) : Int)))
 (.g (inR v.2 (length k)) <|
 .l (.inl ((if v.1 < (getD k (toNat v.2) 0) then (getD k (toNat v.2) 0) else v.1), (wrap .i64 (v.2 + 1)))))
 (.l (.inr v.1))
noncomputable def wum (k : Y1) (v : Int × Int) : Option (Int) := iter (fun v => (wir k v).ev) v
noncomputable def wxc : LD := ⟨(yh [0, 3, 4] (yj [.dat y1, .dat yi, .dat yi])), [(0, (yh [3] Zf))], (yh [] .nil), Y1, Int × (Int), Int, fun k v => ((k, (v.1, (v.2, ()))), ()), fun t => t.1.1, fun t => (t.1.2.1, t.1.2.2.1), wir, fun _ r => .l (.exit 0 (wbj ((ys [3] Zf)) ((r, ()), ())))⟩
noncomputable def waqw (a1_ : Y1) : Tr (Int) :=
 .t (decide (((length a1_ : Nat) : Int) < (1 : Int)))
 (.f)
 (.g (inR 0 (length a1_)) <|
 .c (Int) (wum a1_ ((getD a1_ (toNat 0) 0), (1 : Int))) fun r5_ =>
 .l r5_)
noncomputable def wajo (a1_ : Y1) : Option (Int) := (waqw a1_).ev
noncomputable def wbih : RetK := yr [.tmp 2] Zf
noncomputable def waqx : FD := yd (yj [.dat y1]) [] [] Int (fun x => wajo x.1.1) (fun r => ([.dat yi r], []))
noncomputable def waqy : Env := waa []
noncomputable def waqz : List (Nat × LD) := [(0, wxc)]
noncomputable def wara : Code := (f114.body).getD .skip
noncomputable def T_zh (a1_ : Y1) (a2_ : List Y1) (a3_ : Y1) : Tr (Int) :=
 .c Y1 (F_zf a1_ a2_ a3_) fun r1_ =>
 .g (decide ((length r1_ + length ([(0 : Int)] : Y1)) * 8 ≤ 140737488355328)) <|
 .c (Int) (wajo (r1_ ++ ([(0 : Int)] : Y1))) fun r2_ =>
 .l r2_
noncomputable def F_zh (a1_ : Y1) (a2_ : List Y1) (a3_ : Y1) : Option (Int) := (T_zh a1_ a2_ a3_).ev
noncomputable def K_zh : RetK := yr [.tmp 4] Zf
noncomputable def D_zh : FD := yd (yj [.agg Zg, .dat y1]) [] [] Int (fun x => F_zh x.1.1.1 x.1.1.2.1 x.1.2.1) (fun r => ([.dat yi r], []))
noncomputable def T_zm (a1_ : Y1) (a2_ : List Y1) (a3_ : Y1) (a4_ : Int) : Tr (Int) :=
 .t (a4_ == 1)
 (.c (Int) (F_zk a1_ a2_ a3_) fun r1_ =>
 .l r1_)
 (.t (a4_ == 2)
 (.c (Int) (F_zg a1_ a2_ a3_) fun r2_ =>
 .l r2_)
 (.t (a4_ == 3)
 (.c (Int) (F_zl a1_ a2_ a3_) fun r3_ =>
 .l r3_)
 (.t (a4_ == 4)
 (.c (Int) (F_zh a1_ a2_ a3_) fun r4_ =>
 .l r4_)
 (.l ((length a3_ : Nat) : Int)))))
noncomputable def F_zm (a1_ : Y1) (a2_ : List Y1) (a3_ : Y1) (a4_ : Int) : Option (Int) := (T_zm a1_ a2_ a3_ a4_).ev
noncomputable def K_zm : RetK := yr [.tmp 6] Zf
noncomputable def D_zm : FD := yd (yj [.agg Zg, .dat y1, .dat yi]) [] [] Int (fun x => F_zm x.1.1.1 x.1.1.2.1 x.1.2.1 x.1.2.2.1) (fun r => ([.dat yi r], []))
noncomputable def F_zn (a1_ : Y1) (a2_ : List Y1) (a3_ : (Nat × Value) × Y1) (a4_ : Int) : Option (Int) := F_zm a1_ a2_ a3_.2 a4_
noncomputable def D_zn : FD := wwq F_zm
noncomputable def wgj (k : Int × (Int × (((HL [(.pair (.pair yi yi) .hdr), (.pair (.pair yi yi) .hdr)] → Option (Int))) × Int))) (v : Int × (List (Yc × ((Nat × Value) × Y1)))) : Tr ((Int × (List (Yc × ((Nat × Value) × Y1)))) ⊕ (List (Yc × ((Nat × Value) × Y1)))) :=
 .t (decide (k.1 < v.1))
 (.g (inR v.1 (length v.2)) <|
 .g (decide ((toNat v.1) < length v.2)) <|
 .g (inR (wrap .i64 (v.1 - 1)) (length v.2)) <|
 .g (decide ((toNat (wrap .i64 (v.1 - 1))) < length v.2)) <|
 .c (Int) (k.2.2.1 ((getD v.2 (toNat v.1) (((0 : Int), (0 : Int)), (((0, .slice none 0 0), []) : (Nat × Value) × Y1))), ((getD v.2 (toNat (wrap .i64 (v.1 - 1))) (((0 : Int), (0 : Int)), (((0, .slice none 0 0), []) : (Nat × Value) × Y1))), ()))) fun r12_ =>
 .t (decide (r12_ < 0))
 (.g (inR (wrap .i64 (v.1 - 1)) (length v.2)) <|
 .g (decide ((toNat (wrap .i64 (v.1 - 1))) < length v.2)) <|
 .g (inR v.1 (length v.2)) <|
 .g (decide ((toNat v.1) < length v.2)) <|
 .g (inR v.1 (length v.2)) <|
 .g (decide ((toNat v.1) < length v.2)) <|
 .g (inR (wrap .i64 (v.1 - 1)) (length (set v.2 (toNat v.1) (getD v.2 (toNat (wrap .i64 (v.1 - 1))) (((0 : Int), (0 : Int)), (((0, .slice none 0 0), []) : (Nat × Value) × Y1)))))) <|
 .g (decide ((toNat (wrap .i64 (v.1 - 1))) < length (set v.2 (toNat v.1) (getD v.2 (toNat (wrap .i64 (v.1 - 1))) (((0 : Int), (0 : Int)), (((0, .slice none 0 0), []) : (Nat × Value) × Y1)))))) <|
 .l (.inl ((wrap .i64 (v.1 - 1)), (set (set v.2 (toNat v.1) (getD v.2 (toNat (wrap .i64 (v.1 - 1))) (((0 : Int), (0 : Int)), (((0, .slice none 0 0), []) : (Nat × Value) × Y1)))) (toNat (wrap .i64 (v.1 - 1))) (getD v.2 (toNat v.1) (((0 : Int), (0 : Int)), (((0, .slice none 0 0), []) : (Nat × Value) × Y1)))))))
 (.l (.inr v.2)))
 (.l (.inr v.2))
noncomputable def wpx (k : Int × (Int × (((HL [(.pair (.pair yi yi) .hdr), (.pair (.pair yi yi) .hdr)] → Option (Int))) × Int))) (v : Int × (List (Yc × ((Nat × Value) × Y1)))) : Option (List (Yc × ((Nat × Value) × Y1))) := iter (fun v => (wgj k v).ev) v
noncomputable def wxd : LD := ⟨{ acts := [], S := { slots := [0, 1, 2, 3, 8, 9], sh := (yj [.arr 64, .dat yi, .dat yi, .clo [(.pair (.pair yi yi) .hdr), (.pair (.pair yi yi) .hdr)] yi, .dat yi, .dat yi]), obs := [(64, .arr 75 (.pair (.pair yi yi) .hdr))] } }, [(2, { acts := [], S := { slots := [0, 1, 2, 3, 8], sh := (yj [.arr 64, .dat yi, .dat yi, .clo [(.pair (.pair yi yi) .hdr), (.pair (.pair yi yi) .hdr)] yi, .dat yi]), obs := [(64, .arr 75 (.pair (.pair yi yi) .hdr))] } })], (yh [] .nil), Int × (Int × (((HL [(.pair (.pair yi yi) .hdr), (.pair (.pair yi yi) .hdr)] → Option (Int))) × Int)), Int × (List (Yc × ((Nat × Value) × Y1))), List (Yc × ((Nat × Value) × Y1)), fun k v => (((), (k.1, (k.2.1, (k.2.2.1, (k.2.2.2, (v.1, ())))))), (v.2, ())), fun t => (t.1.2.1, (t.1.2.2.1, (t.1.2.2.2.1, t.1.2.2.2.2.1))), fun t => (t.1.2.2.2.2.2.1, t.2.1), wgj, fun k r => .l (.exit 2 (wbj ({ slots := [0, 1, 2, 3, 8], sh := (yj [.arr 64, .dat yi, .dat yi, .clo [(.pair (.pair yi yi) .hdr), (.pair (.pair yi yi) .hdr)] yi, .dat yi]), obs := [(64, .arr 75 (.pair (.pair yi yi) .hdr))] }) (((), (k.1, (k.2.1, (k.2.2.1, (k.2.2.2, ()))))), (r, ()))))⟩
noncomputable def wis (k : Int × (Int × ((HL [(.pair (.pair yi yi) .hdr), (.pair (.pair yi yi) .hdr)] → Option (Int))))) (v : Int × (List (Yc × ((Nat × Value) × Y1)))) : Tr ((Int × (List (Yc × ((Nat × Value) × Y1)))) ⊕ (List (Yc × ((Nat × Value) × Y1)))) :=
 .t (decide (v.1 < k.2.1))
 (.c (List (Yc × ((Nat × Value) × Y1))) (wpx (k.1, (k.2.1, (k.2.2, v.1))) (v.1, v.2)) fun r18_ =>
 .l (.inl ((wrap .i64 (v.1 + 1)), r18_)))
 (.l (.inr v.2))
noncomputable def wgk (k : Int × (Int × ((HL [(.pair (.pair yi yi) .hdr), (.pair (.pair yi yi) .hdr)] → Option (Int))))) (v : Int × (List (Yc × ((Nat × Value) × Y1)))) : Option (List (Yc × ((Nat × Value) × Y1))) := iter (fun v => (wis k v).ev) v
noncomputable def wxe : LD := ⟨{ acts := [], S := { slots := [0, 1, 2, 3, 8], sh := (yj [.arr 64, .dat yi, .dat yi, .clo [(.pair (.pair yi yi) .hdr), (.pair (.pair yi yi) .hdr)] yi, .dat yi]), obs := [(64, .arr 75 (.pair (.pair yi yi) .hdr))] } }, [(0, { acts := [], S := { slots := [0], sh := Zq, obs := [(64, .arr 75 (.pair (.pair yi yi) .hdr))] } })], (yh [] .nil), Int × (Int × ((HL [(.pair (.pair yi yi) .hdr), (.pair (.pair yi yi) .hdr)] → Option (Int)))), Int × (List (Yc × ((Nat × Value) × Y1))), List (Yc × ((Nat × Value) × Y1)), fun k v => (((), (k.1, (k.2.1, (k.2.2, (v.1, ()))))), (v.2, ())), fun t => (t.1.2.1, (t.1.2.2.1, t.1.2.2.2.1)), fun t => (t.1.2.2.2.2.1, t.2.1), wis, fun _ r => .l (.exit 0 (wbj ({ slots := [0], sh := Zq, obs := [(64, .arr 75 (.pair (.pair yi yi) .hdr))] }) (((), ()), (r, ()))))⟩
noncomputable def warb (a2_ : Int) (a3_ : Int) (a4_ : (HL [(.pair (.pair yi yi) .hdr), (.pair (.pair yi yi) .hdr)] → Option (Int))) (a1_ : List (Yc × ((Nat × Value) × Y1))) : Tr (List (Yc × ((Nat × Value) × Y1))) :=
 .c (List (Yc × ((Nat × Value) × Y1))) (wgk (a2_, (a3_, a4_)) ((wrap .i64 (a2_ + 1)), a1_)) fun r20_ =>
 .l r20_
noncomputable def waae (a2_ : Int) (a3_ : Int) (a4_ : (HL [(.pair (.pair yi yi) .hdr), (.pair (.pair yi yi) .hdr)] → Option (Int))) (a1_ : List (Yc × ((Nat × Value) × Y1))) : Option (List (Yc × ((Nat × Value) × Y1))) := (warb a2_ a3_ a4_ a1_).ev
noncomputable def wbim : RetK := { acts := [], res := [], sh := .nil, obs := [(64, .arr 75 (.pair (.pair yi yi) .hdr))], pins := [(0, 0, 64)] }
noncomputable def warc : FD := yd (yj [.arr 64, .dat yi, .dat yi, .clo [(.pair (.pair yi yi) .hdr), (.pair (.pair yi yi) .hdr)] yi]) [(64, .arr 75 (.pair (.pair yi yi) .hdr))] [.arg 0] (List (Yc × ((Nat × Value) × Y1))) (fun x => waae x.1.2.1 x.1.2.2.1 x.1.2.2.2.1 x.2.1) (fun r => ([], [(64, .arr 75 (.pair (.pair yi yi) .hdr) r)]))
noncomputable def wajp : Env := waa []
noncomputable def wajq : List (Nat × LD) := [(2, wxd), (0, wxe)]
noncomputable def wajr : Code := (f115.body).getD .skip
noncomputable def wls (k : Int × Yc) (v : Int × (List (Yc × ((Nat × Value) × Y1)))) : Tr ((Int × (List (Yc × ((Nat × Value) × Y1)))) ⊕ (List (Yc × ((Nat × Value) × Y1)))) :=
 .t (decide (v.1 < k.2.2))
 (.g (inR (wrap .i64 (k.2.1 + v.1)) (length v.2)) <|
 .g (decide ((toNat (wrap .i64 (k.2.1 + v.1))) < length v.2)) <|
 .g (inR (wrap .i64 (k.1 + v.1)) (length v.2)) <|
 .g (decide ((toNat (wrap .i64 (k.1 + v.1))) < length v.2)) <|
 .g (inR (wrap .i64 (k.1 + v.1)) (length v.2)) <|
 .g (decide ((toNat (wrap .i64 (k.1 + v.1))) < length v.2)) <|
 .g (inR (wrap .i64 (k.2.1 + v.1)) (length (set v.2 (toNat (wrap .i64 (k.1 + v.1))) (getD v.2 (toNat (wrap .i64 (k.2.1 + v.1))) (((0 : Int), (0 : Int)), (((0, .slice none 0 0), []) : (Nat × Value) × Y1)))))) <|
 .g (decide ((toNat (wrap .i64 (k.2.1 + v.1))) < length (set v.2 (toNat (wrap .i64 (k.1 + v.1))) (getD v.2 (toNat (wrap .i64 (k.2.1 + v.1))) (((0 : Int), (0 : Int)), (((0, .slice none 0 0), []) : (Nat × Value) × Y1)))))) <|
 .l (.inl ((wrap .i64 (v.1 + 1)), (set (set v.2 (toNat (wrap .i64 (k.1 + v.1))) (getD v.2 (toNat (wrap .i64 (k.2.1 + v.1))) (((0 : Int), (0 : Int)), (((0, .slice none 0 0), []) : (Nat × Value) × Y1)))) (toNat (wrap .i64 (k.2.1 + v.1))) (getD v.2 (toNat (wrap .i64 (k.1 + v.1))) (((0 : Int), (0 : Int)), (((0, .slice none 0 0), []) : (Nat × Value) × Y1)))))))
 (.l (.inr v.2))
noncomputable def wlt (k : Int × Yc) (v : Int × (List (Yc × ((Nat × Value) × Y1)))) : Option (List (Yc × ((Nat × Value) × Y1))) := iter (fun v => (wls k v).ev) v
noncomputable def wxf : LD := ⟨{ acts := [], S := { slots := [0, 1, 2, 3, 10], sh := (yj [.arr 64, .dat yi, .dat yi, .dat yi, .dat yi]), obs := [(64, .arr 75 (.pair (.pair yi yi) .hdr))] } }, [(0, { acts := [], S := { slots := [0], sh := Zq, obs := [(64, .arr 75 (.pair (.pair yi yi) .hdr))] } })], (yh [] .nil), Int × Yc, Int × (List (Yc × ((Nat × Value) × Y1))), List (Yc × ((Nat × Value) × Y1)), fun k v => (((), (k.1, (k.2.1, (k.2.2, (v.1, ()))))), (v.2, ())), fun t => (t.1.2.1, (t.1.2.2.1, t.1.2.2.2.1)), fun t => (t.1.2.2.2.2.1, t.2.1), wls, fun _ r => .l (.exit 0 (wbj ({ slots := [0], sh := Zq, obs := [(64, .arr 75 (.pair (.pair yi yi) .hdr))] }) (((), ()), (r, ()))))⟩
noncomputable def ward (a2_ : Int) (a3_ : Int) (a4_ : Int) (_a5_ : (HL [(.pair (.pair yi yi) .hdr), (.pair (.pair yi yi) .hdr)] → Option (Int))) (a1_ : List (Yc × ((Nat × Value) × Y1))) : Tr (List (Yc × ((Nat × Value) × Y1))) :=
 .c (List (Yc × ((Nat × Value) × Y1))) (wlt (a2_, (a3_, a4_)) ((0 : Int), a1_)) fun r7_ =>
 .l r7_
noncomputable def wun (a2_ : Int) (a3_ : Int) (a4_ : Int) (a5_ : (HL [(.pair (.pair yi yi) .hdr), (.pair (.pair yi yi) .hdr)] → Option (Int))) (a1_ : List (Yc × ((Nat × Value) × Y1))) : Option (List (Yc × ((Nat × Value) × Y1))) := (ward a2_ a3_ a4_ a5_ a1_).ev
noncomputable def wbin : RetK := { acts := [], res := [], sh := .nil, obs := [(64, .arr 75 (.pair (.pair yi yi) .hdr))], pins := [(0, 0, 64)] }
noncomputable def ware : FD := yd (yj [.arr 64, .dat yi, .dat yi, .dat yi, .clo [(.pair (.pair yi yi) .hdr), (.pair (.pair yi yi) .hdr)] yi]) [(64, .arr 75 (.pair (.pair yi yi) .hdr))] [.arg 0] (List (Yc × ((Nat × Value) × Y1))) (fun x => wun x.1.2.1 x.1.2.2.1 x.1.2.2.2.1 x.1.2.2.2.2.1 x.2.1) (fun r => ([], [(64, .arr 75 (.pair (.pair yi yi) .hdr) r)]))
noncomputable def warf : Env := waa []
noncomputable def warg : List (Nat × LD) := [(0, wxf)]
noncomputable def warh : Code := (f158.body).getD .skip
noncomputable def wgl (k : Int × ((HL [(.pair (.pair yi yi) .hdr), (.pair (.pair yi yi) .hdr)] → Option (Int)))) (v : Int × (Int × (List (Yc × ((Nat × Value) × Y1))))) : Tr ((Int × (Int × (List (Yc × ((Nat × Value) × Y1))))) ⊕ (Int × (List (Yc × ((Nat × Value) × Y1))))) :=
 .t (v.1 != v.2.1)
 (.t (decide (v.2.1 < v.1))
 (.c (List (Yc × ((Nat × Value) × Y1))) (wun (wrap .i64 (k.1 - v.1)) k.1 v.2.1 k.2 v.2.2) fun r6_ =>
 .l (.inl ((wrap .i64 (v.1 - v.2.1)), (v.2.1, r6_))))
 (.c (List (Yc × ((Nat × Value) × Y1))) (wun (wrap .i64 (k.1 - v.1)) (wrap .i64 ((wrap .i64 (k.1 + v.2.1)) - v.1)) v.1 k.2 v.2.2) fun r7_ =>
 .l (.inl (v.1, ((wrap .i64 (v.2.1 - v.1)), r7_)))))
 (.l (.inr (v.1, v.2.2)))
noncomputable def wuo (k : Int × ((HL [(.pair (.pair yi yi) .hdr), (.pair (.pair yi yi) .hdr)] → Option (Int)))) (v : Int × (Int × (List (Yc × ((Nat × Value) × Y1))))) : Option (Int × (List (Yc × ((Nat × Value) × Y1)))) := iter (fun v => (wgl k v).ev) v
noncomputable def wxg : LD := ⟨{ acts := [], S := { slots := [0, 2, 4, 10, 11], sh := (yj [.arr 64, .dat yi, .clo [(.pair (.pair yi yi) .hdr), (.pair (.pair yi yi) .hdr)] yi, .dat yi, .dat yi]), obs := [(64, .arr 75 (.pair (.pair yi yi) .hdr))] } }, [(0, { acts := [], S := { slots := [0, 2, 4, 10], sh := (yj [.arr 64, .dat yi, .clo [(.pair (.pair yi yi) .hdr), (.pair (.pair yi yi) .hdr)] yi, .dat yi]), obs := [(64, .arr 75 (.pair (.pair yi yi) .hdr))] } })], (yh [] .nil), Int × ((HL [(.pair (.pair yi yi) .hdr), (.pair (.pair yi yi) .hdr)] → Option (Int))), Int × (Int × (List (Yc × ((Nat × Value) × Y1)))), Int × (List (Yc × ((Nat × Value) × Y1))), fun k v => (((), (k.1, (k.2, (v.1, (v.2.1, ()))))), (v.2.2, ())), fun t => (t.1.2.1, t.1.2.2.1), fun t => (t.1.2.2.2.1, (t.1.2.2.2.2.1, t.2.1)), wgl, fun k r => .l (.exit 0 (wbj ({ slots := [0, 2, 4, 10], sh := (yj [.arr 64, .dat yi, .clo [(.pair (.pair yi yi) .hdr), (.pair (.pair yi yi) .hdr)] yi, .dat yi]), obs := [(64, .arr 75 (.pair (.pair yi yi) .hdr))] }) (((), (k.1, (k.2, (r.1, ())))), (r.2, ()))))⟩
noncomputable def wari (a2_ : Int) (a3_ : Int) (a4_ : Int) (a5_ : (HL [(.pair (.pair yi yi) .hdr), (.pair (.pair yi yi) .hdr)] → Option (Int))) (a1_ : List (Yc × ((Nat × Value) × Y1))) : Tr (List (Yc × ((Nat × Value) × Y1))) :=
 .c (Int × (List (Yc × ((Nat × Value) × Y1)))) (wuo (a3_, a5_) ((wrap .i64 (a3_ - a2_)), ((wrap .i64 (a4_ - a3_)), a1_))) fun r12_ =>
 .c (List (Yc × ((Nat × Value) × Y1))) (wun (wrap .i64 (a3_ - r12_.1)) a3_ r12_.1 a5_ r12_.2) fun r13_ =>
 .l r13_
noncomputable def wrz (a2_ : Int) (a3_ : Int) (a4_ : Int) (a5_ : (HL [(.pair (.pair yi yi) .hdr), (.pair (.pair yi yi) .hdr)] → Option (Int))) (a1_ : List (Yc × ((Nat × Value) × Y1))) : Option (List (Yc × ((Nat × Value) × Y1))) := (wari a2_ a3_ a4_ a5_ a1_).ev
noncomputable def wbio : RetK := { acts := [], res := [], sh := .nil, obs := [(64, .arr 75 (.pair (.pair yi yi) .hdr))], pins := [(0, 0, 64)] }
noncomputable def warj : FD := yd (yj [.arr 64, .dat yi, .dat yi, .dat yi, .clo [(.pair (.pair yi yi) .hdr), (.pair (.pair yi yi) .hdr)] yi]) [(64, .arr 75 (.pair (.pair yi yi) .hdr))] [.arg 0] (List (Yc × ((Nat × Value) × Y1))) (fun x => wrz x.1.2.1 x.1.2.2.1 x.1.2.2.2.1 x.1.2.2.2.2.1 x.2.1) (fun r => ([], [(64, .arr 75 (.pair (.pair yi yi) .hdr) r)]))
noncomputable def wark : Env := waa [(158, ware)]
noncomputable def warl : List (Nat × LD) := [(0, wxg)]
noncomputable def warm : Code := (f139.body).getD .skip
noncomputable def wlu (rec_ : (Int) → (Int) → (Int) → ((HL [(.pair (.pair yi yi) .hdr), (.pair (.pair yi yi) .hdr)] → Option (Int))) → (List (Yc × ((Nat × Value) × Y1))) → Option (List (Yc × ((Nat × Value) × Y1)))) (k : Int × (((HL [(.pair (.pair yi yi) .hdr), (.pair (.pair yi yi) .hdr)] → Option (Int))) × (List (Yc × ((Nat × Value) × Y1))))) (v : Int × Int) : Tr (Yc ⊕ (Int)) :=
 .t (decide (v.1 < v.2))
 (.g (decide ((0 : Int) ≤ (1 : Int))) <|
 .g (inR (wrap .i64 (Int.fdiv (wrap .u64 (wrap .i64 (v.1 + v.2))) (2 ^ (min (toNat 1) Zb)))) (length k.2.2)) <|
 .g (decide ((toNat (wrap .i64 (Int.fdiv (wrap .u64 (wrap .i64 (v.1 + v.2))) (2 ^ (min (toNat 1) Zb))))) < length k.2.2)) <|
 .g (inR k.1 (length k.2.2)) <|
 .g (decide ((toNat k.1) < length k.2.2)) <|
 .c (Int) (k.2.1 ((getD k.2.2 (toNat (wrap .i64 (Int.fdiv (wrap .u64 (wrap .i64 (v.1 + v.2))) (2 ^ (min (toNat 1) Zb))))) (((0 : Int), (0 : Int)), (((0, .slice none 0 0), []) : (Nat × Value) × Y1))), ((getD k.2.2 (toNat k.1) (((0 : Int), (0 : Int)), (((0, .slice none 0 0), []) : (Nat × Value) × Y1))), ()))) fun r6_ =>
 .t (decide (r6_ < 0))
 (.l (.inl ((wrap .i64 ((wrap .i64 (Int.fdiv (wrap .u64 (wrap .i64 (v.1 + v.2))) (2 ^ (min (toNat 1) Zb)))) + 1)), v.2)))
 (.l (.inl (v.1, (wrap .i64 (Int.fdiv (wrap .u64 (wrap .i64 (v.1 + v.2))) (2 ^ (min (toNat 1) Zb))))))))
 (.l (.inr v.1))
noncomputable def wup (rec_ : (Int) → (Int) → (Int) → ((HL [(.pair (.pair yi yi) .hdr), (.pair (.pair yi yi) .hdr)] → Option (Int))) → (List (Yc × ((Nat × Value) × Y1))) → Option (List (Yc × ((Nat × Value) × Y1)))) (k : Int × (((HL [(.pair (.pair yi yi) .hdr), (.pair (.pair yi yi) .hdr)] → Option (Int))) × (List (Yc × ((Nat × Value) × Y1))))) (v : Int × Int) : Option (Int) := iter (fun v => (wlu rec_ k v).ev) v
noncomputable def wxh (rec_ : (Int) → (Int) → (Int) → ((HL [(.pair (.pair yi yi) .hdr), (.pair (.pair yi yi) .hdr)] → Option (Int))) → (List (Yc × ((Nat × Value) × Y1))) → Option (List (Yc × ((Nat × Value) × Y1)))) : LD where
 head := { acts := [], S := { slots := [0, 1, 4, 10, 11], sh := (yj [.arr 64, .dat yi, .clo [(.pair (.pair yi yi) .hdr), (.pair (.pair yi yi) .hdr)] yi, .dat yi, .dat yi]), obs := [(64, .arr 75 (.pair (.pair yi yi) .hdr))] } }
 exits := [(0, { acts := [], S := { slots := [0, 1, 10], sh := Zn, obs := [(64, .arr 75 (.pair (.pair yi yi) .hdr))] } })]
 rets := (yh [] .nil)
 K := Int × (((HL [(.pair (.pair yi yi) .hdr), (.pair (.pair yi yi) .hdr)] → Option (Int))) × (List (Yc × ((Nat × Value) × Y1))))
 V := Int × (Int)
 R := Int
 join := fun k v => (((), (k.1, (k.2.1, (v.1, (v.2, ()))))), (k.2.2, ()))
 sk := fun t => (t.1.2.1, (t.1.2.2.1, t.2.1))
 sv := fun t => (t.1.2.2.2.1, t.1.2.2.2.2.1)
 step := wlu rec_
 leaf := fun k r => .l (.exit 0 (wbj ({ slots := [0, 1, 10], sh := Zn, obs := [(64, .arr 75 (.pair (.pair yi yi) .hdr))] }) (((), (k.1, (r, ()))), (k.2.2, ()))))
noncomputable def wlv (rec_ : (Int) → (Int) → (Int) → ((HL [(.pair (.pair yi yi) .hdr), (.pair (.pair yi yi) .hdr)] → Option (Int))) → (List (Yc × ((Nat × Value) × Y1))) → Option (List (Yc × ((Nat × Value) × Y1)))) (k : Int) (v : Int × (List (Yc × ((Nat × Value) × Y1)))) : Tr ((Int × (List (Yc × ((Nat × Value) × Y1)))) ⊕ (List (Yc × ((Nat × Value) × Y1)))) :=
 .t (decide (v.1 < (wrap .i64 (k - 1))))
 (.g (inR (wrap .i64 (v.1 + 1)) (length v.2)) <|
 .g (decide ((toNat (wrap .i64 (v.1 + 1))) < length v.2)) <|
 .g (inR v.1 (length v.2)) <|
 .g (decide ((toNat v.1) < length v.2)) <|
 .g (inR v.1 (length v.2)) <|
 .g (decide ((toNat v.1) < length v.2)) <|
 .g (inR (wrap .i64 (v.1 + 1)) (length (set v.2 (toNat v.1) (getD v.2 (toNat (wrap .i64 (v.1 + 1))) (((0 : Int), (0 : Int)), (((0, .slice none 0 0), []) : (Nat × Value) × Y1)))))) <|
 .g (decide ((toNat (wrap .i64 (v.1 + 1))) < length (set v.2 (toNat v.1) (getD v.2 (toNat (wrap .i64 (v.1 + 1))) (((0 : Int), (0 : Int)), (((0, .slice none 0 0), []) : (Nat × Value) × Y1)))))) <|
 .l (.inl ((wrap .i64 (v.1 + 1)), (set (set v.2 (toNat v.1) (getD v.2 (toNat (wrap .i64 (v.1 + 1))) (((0 : Int), (0 : Int)), (((0, .slice none 0 0), []) : (Nat × Value) × Y1)))) (toNat (wrap .i64 (v.1 + 1))) (getD v.2 (toNat v.1) (((0 : Int), (0 : Int)), (((0, .slice none 0 0), []) : (Nat × Value) × Y1)))))))
 (.l (.inr v.2))
noncomputable def wlw (rec_ : (Int) → (Int) → (Int) → ((HL [(.pair (.pair yi yi) .hdr), (.pair (.pair yi yi) .hdr)] → Option (Int))) → (List (Yc × ((Nat × Value) × Y1))) → Option (List (Yc × ((Nat × Value) × Y1)))) (k : Int) (v : Int × (List (Yc × ((Nat × Value) × Y1)))) : Option (List (Yc × ((Nat × Value) × Y1))) := iter (fun v => (wlv rec_ k v).ev) v
noncomputable def wxi (rec_ : (Int) → (Int) → (Int) → ((HL [(.pair (.pair yi yi) .hdr), (.pair (.pair yi yi) .hdr)] → Option (Int))) → (List (Yc × ((Nat × Value) × Y1))) → Option (List (Yc × ((Nat × Value) × Y1)))) : LD where
 head := { acts := [], S := { slots := [0, 10, 13], sh := Zn, obs := [(64, .arr 75 (.pair (.pair yi yi) .hdr))] } }
 exits := [(2, { acts := [], S := { slots := [0], sh := Zq, obs := [(64, .arr 75 (.pair (.pair yi yi) .hdr))] } })]
 rets := (yh [] .nil)
 K := Int
 V := Int × (List (Yc × ((Nat × Value) × Y1)))
 R := List (Yc × ((Nat × Value) × Y1))
 join := fun k v => (((), (k, (v.1, ()))), (v.2, ()))
 sk := fun t => t.1.2.1
 sv := fun t => (t.1.2.2.1, t.2.1)
 step := wlv rec_
 leaf := fun _ r => .l (.exit 2 (wbj ({ slots := [0], sh := Zq, obs := [(64, .arr 75 (.pair (.pair yi yi) .hdr))] }) (((), ()), (r, ()))))
noncomputable def wlx (rec_ : (Int) → (Int) → (Int) → ((HL [(.pair (.pair yi yi) .hdr), (.pair (.pair yi yi) .hdr)] → Option (Int))) → (List (Yc × ((Nat × Value) × Y1))) → Option (List (Yc × ((Nat × Value) × Y1)))) (k : Int × (((HL [(.pair (.pair yi yi) .hdr), (.pair (.pair yi yi) .hdr)] → Option (Int))) × (List (Yc × ((Nat × Value) × Y1))))) (v : Int × Int) : Tr (Yc ⊕ (Int)) :=
 .t (decide (v.1 < v.2))
 (.g (decide ((0 : Int) ≤ (1 : Int))) <|
 .g (inR k.1 (length k.2.2)) <|
 .g (decide ((toNat k.1) < length k.2.2)) <|
 .g (inR (wrap .i64 (Int.fdiv (wrap .u64 (wrap .i64 (v.1 + v.2))) (2 ^ (min (toNat 1) Zb)))) (length k.2.2)) <|
 .g (decide ((toNat (wrap .i64 (Int.fdiv (wrap .u64 (wrap .i64 (v.1 + v.2))) (2 ^ (min (toNat 1) Zb))))) < length k.2.2)) <|
 .c (Int) (k.2.1 ((getD k.2.2 (toNat k.1) (((0 : Int), (0 : Int)), (((0, .slice none 0 0), []) : (Nat × Value) × Y1))), ((getD k.2.2 (toNat (wrap .i64 (Int.fdiv (wrap .u64 (wrap .i64 (v.1 + v.2))) (2 ^ (min (toNat 1) Zb))))) (((0 : Int), (0 : Int)), (((0, .slice none 0 0), []) : (Nat × Value) × Y1))), ()))) fun r21_ =>
 .t (!(decide (r21_ < 0)))
 (.l (.inl ((wrap .i64 ((wrap .i64 (Int.fdiv (wrap .u64 (wrap .i64 (v.1 + v.2))) (2 ^ (min (toNat 1) Zb)))) + 1)), v.2)))
 (.l (.inl (v.1, (wrap .i64 (Int.fdiv (wrap .u64 (wrap .i64 (v.1 + v.2))) (2 ^ (min (toNat 1) Zb))))))))
 (.l (.inr v.1))
noncomputable def wuq (rec_ : (Int) → (Int) → (Int) → ((HL [(.pair (.pair yi yi) .hdr), (.pair (.pair yi yi) .hdr)] → Option (Int))) → (List (Yc × ((Nat × Value) × Y1))) → Option (List (Yc × ((Nat × Value) × Y1)))) (k : Int × (((HL [(.pair (.pair yi yi) .hdr), (.pair (.pair yi yi) .hdr)] → Option (Int))) × (List (Yc × ((Nat × Value) × Y1))))) (v : Int × Int) : Option (Int) := iter (fun v => (wlx rec_ k v).ev) v
noncomputable def wxj (rec_ : (Int) → (Int) → (Int) → ((HL [(.pair (.pair yi yi) .hdr), (.pair (.pair yi yi) .hdr)] → Option (Int))) → (List (Yc × ((Nat × Value) × Y1))) → Option (List (Yc × ((Nat × Value) × Y1)))) : LD where
 head := { acts := [], S := { slots := [0, 2, 4, 14, 15], sh := (yj [.arr 64, .dat yi, .clo [(.pair (.pair yi yi) .hdr), (.pair (.pair yi yi) .hdr)] yi, .dat yi, .dat yi]), obs := [(64, .arr 75 (.pair (.pair yi yi) .hdr))] } }
 exits := [(4, { acts := [], S := { slots := [0, 2, 14], sh := Zn, obs := [(64, .arr 75 (.pair (.pair yi yi) .hdr))] } })]
 rets := (yh [] .nil)
 K := Int × (((HL [(.pair (.pair yi yi) .hdr), (.pair (.pair yi yi) .hdr)] → Option (Int))) × (List (Yc × ((Nat × Value) × Y1))))
 V := Int × (Int)
 R := Int
 join := fun k v => (((), (k.1, (k.2.1, (v.1, (v.2, ()))))), (k.2.2, ()))
 sk := fun t => (t.1.2.1, (t.1.2.2.1, t.2.1))
 sv := fun t => (t.1.2.2.2.1, t.1.2.2.2.2.1)
 step := wlx rec_
 leaf := fun k r => .l (.exit 4 (wbj ({ slots := [0, 2, 14], sh := Zn, obs := [(64, .arr 75 (.pair (.pair yi yi) .hdr))] }) (((), (k.1, (r, ()))), (k.2.2, ()))))
noncomputable def wly (rec_ : (Int) → (Int) → (Int) → ((HL [(.pair (.pair yi yi) .hdr), (.pair (.pair yi yi) .hdr)] → Option (Int))) → (List (Yc × ((Nat × Value) × Y1))) → Option (List (Yc × ((Nat × Value) × Y1)))) (k : Int) (v : Int × (List (Yc × ((Nat × Value) × Y1)))) : Tr ((Int × (List (Yc × ((Nat × Value) × Y1)))) ⊕ (List (Yc × ((Nat × Value) × Y1)))) :=
 .t (decide (k < v.1))
 (.g (inR (wrap .i64 (v.1 - 1)) (length v.2)) <|
 .g (decide ((toNat (wrap .i64 (v.1 - 1))) < length v.2)) <|
 .g (inR v.1 (length v.2)) <|
 .g (decide ((toNat v.1) < length v.2)) <|
 .g (inR v.1 (length v.2)) <|
 .g (decide ((toNat v.1) < length v.2)) <|
 .g (inR (wrap .i64 (v.1 - 1)) (length (set v.2 (toNat v.1) (getD v.2 (toNat (wrap .i64 (v.1 - 1))) (((0 : Int), (0 : Int)), (((0, .slice none 0 0), []) : (Nat × Value) × Y1)))))) <|
 .g (decide ((toNat (wrap .i64 (v.1 - 1))) < length (set v.2 (toNat v.1) (getD v.2 (toNat (wrap .i64 (v.1 - 1))) (((0 : Int), (0 : Int)), (((0, .slice none 0 0), []) : (Nat × Value) × Y1)))))) <|
 .l (.inl ((wrap .i64 (v.1 - 1)), (set (set v.2 (toNat v.1) (getD v.2 (toNat (wrap .i64 (v.1 - 1))) (((0 : Int), (0 : Int)), (((0, .slice none 0 0), []) : (Nat × Value) × Y1)))) (toNat (wrap .i64 (v.1 - 1))) (getD v.2 (toNat v.1) (((0 : Int), (0 : Int)), (((0, .slice none 0 0), []) : (Nat × Value) × Y1)))))))
 (.l (.inr v.2))
noncomputable def wlz (rec_ : (Int) → (Int) → (Int) → ((HL [(.pair (.pair yi yi) .hdr), (.pair (.pair yi yi) .hdr)] → Option (Int))) → (List (Yc × ((Nat × Value) × Y1))) → Option (List (Yc × ((Nat × Value) × Y1)))) (k : Int) (v : Int × (List (Yc × ((Nat × Value) × Y1)))) : Option (List (Yc × ((Nat × Value) × Y1))) := iter (fun v => (wly rec_ k v).ev) v
noncomputable def wxk (rec_ : (Int) → (Int) → (Int) → ((HL [(.pair (.pair yi yi) .hdr), (.pair (.pair yi yi) .hdr)] → Option (Int))) → (List (Yc × ((Nat × Value) × Y1))) → Option (List (Yc × ((Nat × Value) × Y1)))) : LD where
 head := { acts := [], S := { slots := [0, 14, 17], sh := Zn, obs := [(64, .arr 75 (.pair (.pair yi yi) .hdr))] } }
 exits := [(6, { acts := [], S := { slots := [0], sh := Zq, obs := [(64, .arr 75 (.pair (.pair yi yi) .hdr))] } })]
 rets := (yh [] .nil)
 K := Int
 V := Int × (List (Yc × ((Nat × Value) × Y1)))
 R := List (Yc × ((Nat × Value) × Y1))
 join := fun k v => (((), (k, (v.1, ()))), (v.2, ()))
 sk := fun t => t.1.2.1
 sv := fun t => (t.1.2.2.1, t.2.1)
 step := wly rec_
 leaf := fun _ r => .l (.exit 6 (wbj ({ slots := [0], sh := Zq, obs := [(64, .arr 75 (.pair (.pair yi yi) .hdr))] }) (((), ()), (r, ()))))
noncomputable def wma (rec_ : (Int) → (Int) → (Int) → ((HL [(.pair (.pair yi yi) .hdr), (.pair (.pair yi yi) .hdr)] → Option (Int))) → (List (Yc × ((Nat × Value) × Y1))) → Option (List (Yc × ((Nat × Value) × Y1)))) (k : Int × (Int × (Int × (((HL [(.pair (.pair yi yi) .hdr), (.pair (.pair yi yi) .hdr)] → Option (Int))) × (Int × (Int × (Int × (List (Yc × ((Nat × Value) × Y1)))))))))) (v : Int × Int) : Tr (Yc ⊕ (Int)) :=
 .t (decide (v.1 < v.2))
 (.g (decide ((0 : Int) ≤ (1 : Int))) <|
 .g (inR (wrap .i64 (k.2.2.2.2.2.2.1 - (wrap .i64 (Int.fdiv (wrap .u64 (wrap .i64 (v.1 + v.2))) (2 ^ (min (toNat 1) Zb)))))) (length k.2.2.2.2.2.2.2)) <|
 .g (decide ((toNat (wrap .i64 (k.2.2.2.2.2.2.1 - (wrap .i64 (Int.fdiv (wrap .u64 (wrap .i64 (v.1 + v.2))) (2 ^ (min (toNat 1) Zb))))))) < length k.2.2.2.2.2.2.2)) <|
 .g (inR (wrap .i64 (Int.fdiv (wrap .u64 (wrap .i64 (v.1 + v.2))) (2 ^ (min (toNat 1) Zb)))) (length k.2.2.2.2.2.2.2)) <|
 .g (decide ((toNat (wrap .i64 (Int.fdiv (wrap .u64 (wrap .i64 (v.1 + v.2))) (2 ^ (min (toNat 1) Zb))))) < length k.2.2.2.2.2.2.2)) <|
 .c (Int) (k.2.2.2.1 ((getD k.2.2.2.2.2.2.2 (toNat (wrap .i64 (k.2.2.2.2.2.2.1 - (wrap .i64 (Int.fdiv (wrap .u64 (wrap .i64 (v.1 + v.2))) (2 ^ (min (toNat 1) Zb))))))) (((0 : Int), (0 : Int)), (((0, .slice none 0 0), []) : (Nat × Value) × Y1))), ((getD k.2.2.2.2.2.2.2 (toNat (wrap .i64 (Int.fdiv (wrap .u64 (wrap .i64 (v.1 + v.2))) (2 ^ (min (toNat 1) Zb))))) (((0 : Int), (0 : Int)), (((0, .slice none 0 0), []) : (Nat × Value) × Y1))), ()))) fun r41_ =>
 .t (!(decide (r41_ < 0)))
 (.l (.inl ((wrap .i64 ((wrap .i64 (Int.fdiv (wrap .u64 (wrap .i64 (v.1 + v.2))) (2 ^ (min (toNat 1) Zb)))) + 1)), v.2)))
 (.l (.inl (v.1, (wrap .i64 (Int.fdiv (wrap .u64 (wrap .i64 (v.1 + v.2))) (2 ^ (min (toNat 1) Zb))))))))
 (.l (.inr v.1))
noncomputable def wiu (rec_ : (Int) → (Int) → (Int) → ((HL [(.pair (.pair yi yi) .hdr), (.pair (.pair yi yi) .hdr)] → Option (Int))) → (List (Yc × ((Nat × Value) × Y1))) → Option (List (Yc × ((Nat × Value) × Y1)))) (k : Int × (Int × (Int × (((HL [(.pair (.pair yi yi) .hdr), (.pair (.pair yi yi) .hdr)] → Option (Int))) × (Int × (Int × (Int × (List (Yc × ((Nat × Value) × Y1)))))))))) (v : Int × Int) : Option (Int) := iter (fun v => (wma rec_ k v).ev) v
noncomputable def wxl (rec_ : (Int) → (Int) → (Int) → ((HL [(.pair (.pair yi yi) .hdr), (.pair (.pair yi yi) .hdr)] → Option (Int))) → (List (Yc × ((Nat × Value) × Y1))) → Option (List (Yc × ((Nat × Value) × Y1)))) : LD where
 head := { acts := [], S := { slots := [0, 1, 2, 3, 4, 18, 19, 20, 21, 22], sh := (yj [.arr 64, .dat yi, .dat yi, .dat yi, .clo [(.pair (.pair yi yi) .hdr), (.pair (.pair yi yi) .hdr)] yi, .dat yi, .dat yi, .dat yi, .dat yi, .dat yi]), obs := [(64, .arr 75 (.pair (.pair yi yi) .hdr))] } }
 exits := [(8, { acts := [], S := { slots := [0, 1, 2, 3, 4, 18, 19, 20], sh := (yj [.arr 64, .dat yi, .dat yi, .dat yi, .clo [(.pair (.pair yi yi) .hdr), (.pair (.pair yi yi) .hdr)] yi, .dat yi, .dat yi, .dat yi]), obs := [(64, .arr 75 (.pair (.pair yi yi) .hdr))] } })]
 rets := (yh [] .nil)
 K := Int × (Int × (Int × (((HL [(.pair (.pair yi yi) .hdr), (.pair (.pair yi yi) .hdr)] → Option (Int))) × (Int × (Int × (Int × (List (Yc × ((Nat × Value) × Y1)))))))))
 V := Int × (Int)
 R := Int
 join := fun k v => (((), (k.1, (k.2.1, (k.2.2.1, (k.2.2.2.1, (k.2.2.2.2.1, (k.2.2.2.2.2.1, (v.1, (v.2, (k.2.2.2.2.2.2.1, ())))))))))), (k.2.2.2.2.2.2.2, ()))
 sk := fun t => (t.1.2.1, (t.1.2.2.1, (t.1.2.2.2.1, (t.1.2.2.2.2.1, (t.1.2.2.2.2.2.1, (t.1.2.2.2.2.2.2.1, (t.1.2.2.2.2.2.2.2.2.2.1, t.2.1)))))))
 sv := fun t => (t.1.2.2.2.2.2.2.2.1, t.1.2.2.2.2.2.2.2.2.1)
 step := wma rec_
 leaf := fun k r => .l (.exit 8 (wbj ({ slots := [0, 1, 2, 3, 4, 18, 19, 20], sh := (yj [.arr 64, .dat yi, .dat yi, .dat yi, .clo [(.pair (.pair yi yi) .hdr), (.pair (.pair yi yi) .hdr)] yi, .dat yi, .dat yi, .dat yi]), obs := [(64, .arr 75 (.pair (.pair yi yi) .hdr))] }) (((), (k.1, (k.2.1, (k.2.2.1, (k.2.2.2.1, (k.2.2.2.2.1, (k.2.2.2.2.2.1, (r, ())))))))), (k.2.2.2.2.2.2.2, ()))))
noncomputable def waem (rec_ : (Int) → (Int) → (Int) → ((HL [(.pair (.pair yi yi) .hdr), (.pair (.pair yi yi) .hdr)] → Option (Int))) → (List (Yc × ((Nat × Value) × Y1))) → Option (List (Yc × ((Nat × Value) × Y1)))) (a2_ : Int) (a3_ : Int) (a4_ : Int) (a5_ : (HL [(.pair (.pair yi yi) .hdr), (.pair (.pair yi yi) .hdr)] → Option (Int))) (a1_ : List (Yc × ((Nat × Value) × Y1))) : Tr (List (Yc × ((Nat × Value) × Y1))) :=
 .t ((wrap .i64 (a3_ - a2_)) == (1 : Int))
 (.c (Int) (wup rec_ (a2_, (a5_, a1_)) (a3_, a4_)) fun r10_ =>
 .c (List (Yc × ((Nat × Value) × Y1))) (wlw rec_ r10_ (a2_, a1_)) fun r15_ =>
 .l r15_)
 (.t ((wrap .i64 (a4_ - a3_)) == (1 : Int))
 (.c (Int) (wuq rec_ (a3_, (a5_, a1_)) (a2_, a3_)) fun r25_ =>
 .c (List (Yc × ((Nat × Value) × Y1))) (wlz rec_ r25_ (a3_, a1_)) fun r30_ =>
 .l r30_)
 (.g (decide ((0 : Int) ≤ (1 : Int))) <|
 .t (decide ((wrap .i64 (Int.fdiv (wrap .u64 (wrap .i64 (a2_ + a4_))) (2 ^ (min (toNat 1) Zb)))) < a3_))
 (.c (Int) (wiu rec_ (a2_, (a3_, (a4_, (a5_, ((wrap .i64 (Int.fdiv (wrap .u64 (wrap .i64 (a2_ + a4_))) (2 ^ (min (toNat 1) Zb)))), ((wrap .i64 ((wrap .i64 (Int.fdiv (wrap .u64 (wrap .i64 (a2_ + a4_))) (2 ^ (min (toNat 1) Zb)))) + a3_)), ((wrap .i64 ((wrap .i64 ((wrap .i64 (Int.fdiv (wrap .u64 (wrap .i64 (a2_ + a4_))) (2 ^ (min (toNat 1) Zb)))) + a3_)) - 1)), a1_))))))) ((wrap .i64 ((wrap .i64 ((wrap .i64 (Int.fdiv (wrap .u64 (wrap .i64 (a2_ + a4_))) (2 ^ (min (toNat 1) Zb)))) + a3_)) - a4_)), (wrap .i64 (Int.fdiv (wrap .u64 (wrap .i64 (a2_ + a4_))) (2 ^ (min (toNat 1) Zb)))))) fun r50_ =>
 .t (decide (r50_ < a3_))
 (.t (decide (a3_ < (wrap .i64 ((wrap .i64 ((wrap .i64 (Int.fdiv (wrap .u64 (wrap .i64 (a2_ + a4_))) (2 ^ (min (toNat 1) Zb)))) + a3_)) - r50_))))
 (.c (List (Yc × ((Nat × Value) × Y1))) (wrz r50_ a3_ (wrap .i64 ((wrap .i64 ((wrap .i64 (Int.fdiv (wrap .u64 (wrap .i64 (a2_ + a4_))) (2 ^ (min (toNat 1) Zb)))) + a3_)) - r50_)) a5_ a1_) fun r51_ =>
 .t (decide (a2_ < r50_))
 (.t (decide (r50_ < (wrap .i64 (Int.fdiv (wrap .u64 (wrap .i64 (a2_ + a4_))) (2 ^ (min (toNat 1) Zb))))))
 (.c (List (Yc × ((Nat × Value) × Y1))) (rec_ a2_ r50_ (wrap .i64 (Int.fdiv (wrap .u64 (wrap .i64 (a2_ + a4_))) (2 ^ (min (toNat 1) Zb)))) a5_ r51_) fun r52_ =>
 .t (decide ((wrap .i64 (Int.fdiv (wrap .u64 (wrap .i64 (a2_ + a4_))) (2 ^ (min (toNat 1) Zb)))) < (wrap .i64 ((wrap .i64 ((wrap .i64 (Int.fdiv (wrap .u64 (wrap .i64 (a2_ + a4_))) (2 ^ (min (toNat 1) Zb)))) + a3_)) - r50_))))
 (.t (decide ((wrap .i64 ((wrap .i64 ((wrap .i64 (Int.fdiv (wrap .u64 (wrap .i64 (a2_ + a4_))) (2 ^ (min (toNat 1) Zb)))) + a3_)) - r50_)) < a4_))
 (.c (List (Yc × ((Nat × Value) × Y1))) (rec_ (wrap .i64 (Int.fdiv (wrap .u64 (wrap .i64 (a2_ + a4_))) (2 ^ (min (toNat 1) Zb)))) (wrap .i64 ((wrap .i64 ((wrap .i64 (Int.fdiv (wrap .u64 (wrap .i64 (a2_ + a4_))) (2 ^ (min (toNat 1) Zb)))) + a3_)) - r50_)) a4_ a5_ r52_) fun r53_ =>
 .l r53_)
 (.l r52_))
 (.l r52_))
 (.t (decide ((wrap .i64 (Int.fdiv (wrap .u64 (wrap .i64 (a2_ + a4_))) (2 ^ (min (toNat 1) Zb)))) < (wrap .i64 ((wrap .i64 ((wrap .i64 (Int.fdiv (wrap .u64 (wrap .i64 (a2_ + a4_))) (2 ^ (min (toNat 1) Zb)))) + a3_)) - r50_))))
 (.t (decide ((wrap .i64 ((wrap .i64 ((wrap .i64 (Int.fdiv (wrap .u64 (wrap .i64 (a2_ + a4_))) (2 ^ (min (toNat 1) Zb)))) + a3_)) - r50_)) < a4_))
 (.c (List (Yc × ((Nat × Value) × Y1))) (rec_ (wrap .i64 (Int.fdiv (wrap .u64 (wrap .i64 (a2_ + a4_))) (2 ^ (min (toNat 1) Zb)))) (wrap .i64 ((wrap .i64 ((wrap .i64 (Int.fdiv (wrap .u64 (wrap .i64 (a2_ + a4_))) (2 ^ (min (toNat 1) Zb)))) + a3_)) - r50_)) a4_ a5_ r51_) fun r54_ =>
 .l r54_)
 (.l r51_))
 (.l r51_)))
 (.t (decide ((wrap .i64 (Int.fdiv (wrap .u64 (wrap .i64 (a2_ + a4_))) (2 ^ (min (toNat 1) Zb)))) < (wrap .i64 ((wrap .i64 ((wrap .i64 (Int.fdiv (wrap .u64 (wrap .i64 (a2_ + a4_))) (2 ^ (min (toNat 1) Zb)))) + a3_)) - r50_))))
 (.t (decide ((wrap .i64 ((wrap .i64 ((wrap .i64 (Int.fdiv (wrap .u64 (wrap .i64 (a2_ + a4_))) (2 ^ (min (toNat 1) Zb)))) + a3_)) - r50_)) < a4_))
 (.c (List (Yc × ((Nat × Value) × Y1))) (rec_ (wrap .i64 (Int.fdiv (wrap .u64 (wrap .i64 (a2_ + a4_))) (2 ^ (min (toNat 1) Zb)))) (wrap .i64 ((wrap .i64 ((wrap .i64 (Int.fdiv (wrap .u64 (wrap .i64 (a2_ + a4_))) (2 ^ (min (toNat 1) Zb)))) + a3_)) - r50_)) a4_ a5_ r51_) fun r55_ =>
 .l r55_)
 (.l r51_))
 (.l r51_)))
 (.t (decide (a2_ < r50_))
 (.t (decide (r50_ < (wrap .i64 (Int.fdiv (wrap .u64 (wrap .i64 (a2_ + a4_))) (2 ^ (min (toNat 1) Zb))))))
 (.c (List (Yc × ((Nat × Value) × Y1))) (rec_ a2_ r50_ (wrap .i64 (Int.fdiv (wrap .u64 (wrap .i64 (a2_ + a4_))) (2 ^ (min (toNat 1) Zb)))) a5_ a1_) fun r56_ =>
 .t (decide ((wrap .i64 (Int.fdiv (wrap .u64 (wrap .i64 (a2_ + a4_))) (2 ^ (min (toNat 1) Zb)))) < (wrap .i64 ((wrap .i64 ((wrap .i64 (Int.fdiv (wrap .u64 (wrap .i64 (a2_ + a4_))) (2 ^ (min (toNat 1) Zb)))) + a3_)) - r50_))))
 (.t (decide ((wrap .i64 ((wrap .i64 ((wrap .i64 (Int.fdiv (wrap .u64 (wrap .i64 (a2_ + a4_))) (2 ^ (min (toNat 1) Zb)))) + a3_)) - r50_)) < a4_))
 (.c (List (Yc × ((Nat × Value) × Y1))) (rec_ (wrap .i64 (Int.fdiv (wrap .u64 (wrap .i64 (a2_ + a4_))) (2 ^ (min (toNat 1) Zb)))) (wrap .i64 ((wrap .i64 ((wrap .i64 (Int.fdiv (wrap .u64 (wrap .i64 (a2_ + a4_))) (2 ^ (min (toNat 1) Zb)))) + a3_)) - r50_)) a4_ a5_ r56_) fun r57_ =>
 .l r57_)
 (.l r56_))
 (.l r56_))
 (.t (decide ((wrap .i64 (Int.fdiv (wrap .u64 (wrap .i64 (a2_ + a4_))) (2 ^ (min (toNat 1) Zb)))) < (wrap .i64 ((wrap .i64 ((wrap .i64 (Int.fdiv (wrap .u64 (wrap .i64 (a2_ + a4_))) (2 ^ (min (toNat 1) Zb)))) + a3_)) - r50_))))
 (.t (decide ((wrap .i64 ((wrap .i64 ((wrap .i64 (Int.fdiv (wrap .u64 (wrap .i64 (a2_ + a4_))) (2 ^ (min (toNat 1) Zb)))) + a3_)) - r50_)) < a4_))
 (.c (List (Yc × ((Nat × Value) × Y1))) (rec_ (wrap .i64 (Int.fdiv (wrap .u64 (wrap .i64 (a2_ + a4_))) (2 ^ (min (toNat 1) Zb)))) (wrap .i64 ((wrap .i64 ((wrap .i64 (Int.fdiv (wrap .u64 (wrap .i64 (a2_ + a4_))) (2 ^ (min (toNat 1) Zb)))) + a3_)) - r50_)) a4_ a5_ a1_) fun r58_ =>
 .l r58_)
 (.l a1_))
 (.l a1_)))
 (.t (decide ((wrap .i64 (Int.fdiv (wrap .u64 (wrap .i64 (a2_ + a4_))) (2 ^ (min (toNat 1) Zb)))) < (wrap .i64 ((wrap .i64 ((wrap .i64 (Int.fdiv (wrap .u64 (wrap .i64 (a2_ + a4_))) (2 ^ (min (toNat 1) Zb)))) + a3_)) - r50_))))
 (.t (decide ((wrap .i64 ((wrap .i64 ((wrap .i64 (Int.fdiv (wrap .u64 (wrap .i64 (a2_ + a4_))) (2 ^ (min (toNat 1) Zb)))) + a3_)) - r50_)) < a4_))
 (.c (List (Yc × ((Nat × Value) × Y1))) (rec_ (wrap .i64 (Int.fdiv (wrap .u64 (wrap .i64 (a2_ + a4_))) (2 ^ (min (toNat 1) Zb)))) (wrap .i64 ((wrap .i64 ((wrap .i64 (Int.fdiv (wrap .u64 (wrap .i64 (a2_ + a4_))) (2 ^ (min (toNat 1) Zb)))) + a3_)) - r50_)) a4_ a5_ a1_) fun r59_ =>
 .l r59_)
 (.l a1_))
 (.l a1_))))
 (.t (decide (a2_ < r50_))
 (.t (decide (r50_ < (wrap .i64 (Int.fdiv (wrap .u64 (wrap .i64 (a2_ + a4_))) (2 ^ (min (toNat 1) Zb))))))
 (.c (List (Yc × ((Nat × Value) × Y1))) (rec_ a2_ r50_ (wrap .i64 (Int.fdiv (wrap .u64 (wrap .i64 (a2_ + a4_))) (2 ^ (min (toNat 1) Zb)))) a5_ a1_) fun r60_ =>
 .t (decide ((wrap .i64 (Int.fdiv (wrap .u64 (wrap .i64 (a2_ + a4_))) (2 ^ (min (toNat 1) Zb)))) < (wrap .i64 ((wrap .i64 ((wrap .i64 (Int.fdiv (wrap .u64 (wrap .i64 (a2_ + a4_))) (2 ^ (min (toNat 1) Zb)))) + a3_)) - r50_))))
 (.t (decide ((wrap .i64 ((wrap .i64 ((wrap .i64 (Int.fdiv (wrap .u64 (wrap .i64 (a2_ + a4_))) (2 ^ (min (toNat 1) Zb)))) + a3_)) - r50_)) < a4_))
 (.c (List (Yc × ((Nat × Value) × Y1))) (rec_ (wrap .i64 (Int.fdiv (wrap .u64 (wrap .i64 (a2_ + a4_))) (2 ^ (min (toNat 1) Zb)))) (wrap .i64 ((wrap .i64 ((wrap .i64 (Int.fdiv (wrap .u64 (wrap .i64 (a2_ + a4_))) (2 ^ (min (toNat 1) Zb)))) + a3_)) - r50_)) a4_ a5_ r60_) fun r61_ =>
 .l r61_)
 (.l r60_))
 (.l r60_))
 (.t (decide ((wrap .i64 (Int.fdiv (wrap .u64 (wrap .i64 (a2_ + a4_))) (2 ^ (min (toNat 1) Zb)))) < (wrap .i64 ((wrap .i64 ((wrap .i64 (Int.fdiv (wrap .u64 (wrap .i64 (a2_ + a4_))) (2 ^ (min (toNat 1) Zb)))) + a3_)) - r50_))))
 (.t (decide ((wrap .i64 ((wrap .i64 ((wrap .i64 (Int.fdiv (wrap .u64 (wrap .i64 (a2_ + a4_))) (2 ^ (min (toNat 1) Zb)))) + a3_)) - r50_)) < a4_))
 (.c (List (Yc × ((Nat × Value) × Y1))) (rec_ (wrap .i64 (Int.fdiv (wrap .u64 (wrap .i64 (a2_ + a4_))) (2 ^ (min (toNat 1) Zb)))) (wrap .i64 ((wrap .i64 ((wrap .i64 (Int.fdiv (wrap .u64 (wrap .i64 (a2_ + a4_))) (2 ^ (min (toNat 1) Zb)))) + a3_)) - r50_)) a4_ a5_ a1_) fun r62_ =>
 .l r62_)
 (.l a1_))
 (.l a1_)))
 (.t (decide ((wrap .i64 (Int.fdiv (wrap .u64 (wrap .i64 (a2_ + a4_))) (2 ^ (min (toNat 1) Zb)))) < (wrap .i64 ((wrap .i64 ((wrap .i64 (Int.fdiv (wrap .u64 (wrap .i64 (a2_ + a4_))) (2 ^ (min (toNat 1) Zb)))) + a3_)) - r50_))))
 (.t (decide ((wrap .i64 ((wrap .i64 ((wrap .i64 (Int.fdiv (wrap .u64 (wrap .i64 (a2_ + a4_))) (2 ^ (min (toNat 1) Zb)))) + a3_)) - r50_)) < a4_))
 (.c (List (Yc × ((Nat × Value) × Y1))) (rec_ (wrap .i64 (Int.fdiv (wrap .u64 (wrap .i64 (a2_ + a4_))) (2 ^ (min (toNat 1) Zb)))) (wrap .i64 ((wrap .i64 ((wrap .i64 (Int.fdiv (wrap .u64 (wrap .i64 (a2_ + a4_))) (2 ^ (min (toNat 1) Zb)))) + a3_)) - r50_)) a4_ a5_ a1_) fun r63_ =>
 .l r63_)
 (.l a1_))
 (.l a1_))))
 (.c (Int) (wiu rec_ (a2_, (a3_, (a4_, (a5_, ((wrap .i64 (Int.fdiv (wrap .u64 (wrap .i64 (a2_ + a4_))) (2 ^ (min (toNat 1) Zb)))), ((wrap .i64 ((wrap .i64 (Int.fdiv (wrap .u64 (wrap .i64 (a2_ + a4_))) (2 ^ (min (toNat 1) Zb)))) + a3_)), ((wrap .i64 ((wrap .i64 ((wrap .i64 (Int.fdiv (wrap .u64 (wrap .i64 (a2_ + a4_))) (2 ^ (min (toNat 1) Zb)))) + a3_)) - 1)), a1_))))))) (a2_, a3_)) fun r64_ =>
 .t (decide (r64_ < a3_))
 (.t (decide (a3_ < (wrap .i64 ((wrap .i64 ((wrap .i64 (Int.fdiv (wrap .u64 (wrap .i64 (a2_ + a4_))) (2 ^ (min (toNat 1) Zb)))) + a3_)) - r64_))))
 (.c (List (Yc × ((Nat × Value) × Y1))) (wrz r64_ a3_ (wrap .i64 ((wrap .i64 ((wrap .i64 (Int.fdiv (wrap .u64 (wrap .i64 (a2_ + a4_))) (2 ^ (min (toNat 1) Zb)))) + a3_)) - r64_)) a5_ a1_) fun r65_ =>
 .t (decide (a2_ < r64_))
 (.t (decide (r64_ < (wrap .i64 (Int.fdiv (wrap .u64 (wrap .i64 (a2_ + a4_))) (2 ^ (min (toNat 1) Zb))))))
 (.c (List (Yc × ((Nat × Value) × Y1))) (rec_ a2_ r64_ (wrap .i64 (Int.fdiv (wrap .u64 (wrap .i64 (a2_ + a4_))) (2 ^ (min (toNat 1) Zb)))) a5_ r65_) fun r66_ =>
 .t (decide ((wrap .i64 (Int.fdiv (wrap .u64 (wrap .i64 (a2_ + a4_))) (2 ^ (min (toNat 1) Zb)))) < (wrap .i64 ((wrap .i64 ((wrap .i64 (Int.fdiv (wrap .u64 (wrap .i64 (a2_ + a4_))) (2 ^ (min (toNat 1) Zb)))) + a3_)) - r64_))))
 (.t (decide ((wrap .i64 ((wrap .i64 ((wrap .i64 (Int.fdiv (wrap .u64 (wrap .i64 (a2_ + a4_))) (2 ^ (min (toNat 1) Zb)))) + a3_)) - r64_)) < a4_))
 (.c (List (Yc × ((Nat × Value) × Y1))) (rec_ (wrap .i64 (Int.fdiv (wrap .u64 (wrap .i64 (a2_ + a4_))) (2 ^ (min (toNat 1) Zb)))) (wrap .i64 ((wrap .i64 ((wrap .i64 (Int.fdiv (wrap .u64 (wrap .i64 (a2_ + a4_))) (2 ^ (min (toNat 1) Zb)))) + a3_)) - r64_)) a4_ a5_ r66_) fun r67_ =>
 .l r67_)
 (.l r66_))
 (.l r66_))
 (.t (decide ((wrap .i64 (Int.fdiv (wrap .u64 (wrap .i64 (a2_ + a4_))) (2 ^ (min (toNat 1) Zb)))) < (wrap .i64 ((wrap .i64 ((wrap .i64 (Int.fdiv (wrap .u64 (wrap .i64 (a2_ + a4_))) (2 ^ (min (toNat 1) Zb)))) + a3_)) - r64_))))
 (.t (decide ((wrap .i64 ((wrap .i64 ((wrap .i64 (Int.fdiv (wrap .u64 (wrap .i64 (a2_ + a4_))) (2 ^ (min (toNat 1) Zb)))) + a3_)) - r64_)) < a4_))
 (.c (List (Yc × ((Nat × Value) × Y1))) (rec_ (wrap .i64 (Int.fdiv (wrap .u64 (wrap .i64 (a2_ + a4_))) (2 ^ (min (toNat 1) Zb)))) (wrap .i64 ((wrap .i64 ((wrap .i64 (Int.fdiv (wrap .u64 (wrap .i64 (a2_ + a4_))) (2 ^ (min (toNat 1) Zb)))) + a3_)) - r64_)) a4_ a5_ r65_) fun r68_ =>
 .l r68_)
 (.l r65_))
 (.l r65_)))
 (.t (decide ((wrap .i64 (Int.fdiv (wrap .u64 (wrap .i64 (a2_ + a4_))) (2 ^ (min (toNat 1) Zb)))) < (wrap .i64 ((wrap .i64 ((wrap .i64 (Int.fdiv (wrap .u64 (wrap .i64 (a2_ + a4_))) (2 ^ (min (toNat 1) Zb)))) + a3_)) - r64_))))
 (.t (decide ((wrap .i64 ((wrap .i64 ((wrap .i64 (Int.fdiv (wrap .u64 (wrap .i64 (a2_ + a4_))) (2 ^ (min (toNat 1) Zb)))) + a3_)) - r64_)) < a4_))
 (.c (List (Yc × ((Nat × Value) × Y1))) (rec_ (wrap .i64 (Int.fdiv (wrap .u64 (wrap .i64 (a2_ + a4_))) (2 ^ (min (toNat 1) Zb)))) (wrap .i64 ((wrap .i64 ((wrap .i64 (Int.fdiv (wrap .u64 (wrap .i64 (a2_ + a4_))) (2 ^ (min (toNat 1) Zb)))) + a3_)) - r64_)) a4_ a5_ r65_) fun r69_ =>
 .l r69_)
 (.l r65_))
 (.l r65_)))
 (.t (decide (a2_ < r64_))
 (.t (decide (r64_ < (wrap .i64 (Int.fdiv (wrap .u64 (wrap .i64 (a2_ + a4_))) (2 ^ (min (toNat 1) Zb))))))
 (.c (List (Yc × ((Nat × Value) × Y1))) (rec_ a2_ r64_ (wrap .i64 (Int.fdiv (wrap .u64 (wrap .i64 (a2_ + a4_))) (2 ^ (min (toNat 1) Zb)))) a5_ a1_) fun r70_ =>
 .t (decide ((wrap .i64 (Int.fdiv (wrap .u64 (wrap .i64 (a2_ + a4_))) (2 ^ (min (toNat 1) Zb)))) < (wrap .i64 ((wrap .i64 ((wrap .i64 (Int.fdiv (wrap .u64 (wrap .i64 (a2_ + a4_))) (2 ^ (min (toNat 1) Zb)))) + a3_)) - r64_))))
 (.t (decide ((wrap .i64 ((wrap .i64 ((wrap .i64 (Int.fdiv (wrap .u64 (wrap .i64 (a2_ + a4_))) (2 ^ (min (toNat 1) Zb)))) + a3_)) - r64_)) < a4_))
 (.c (List (Yc × ((Nat × Value) × Y1))) (rec_ (wrap .i64 (Int.fdiv (wrap .u64 (wrap .i64 (a2_ + a4_))) (2 ^ (min (toNat 1) Zb)))) (wrap .i64 ((wrap .i64 ((wrap .i64 (Int.fdiv (wrap .u64 (wrap .i64 (a2_ + a4_))) (2 ^ (min (toNat 1) Zb)))) + a3_)) - r64_)) a4_ a5_ r70_) fun r71_ =>
 .l r71_)
 (.l r70_))
 (.l r70_))
 (.t (decide ((wrap .i64 (Int.fdiv (wrap .u64 (wrap .i64 (a2_ + a4_))) (2 ^ (min (toNat 1) Zb)))) < (wrap .i64 ((wrap .i64 ((wrap .i64 (Int.fdiv (wrap .u64 (wrap .i64 (a2_ + a4_))) (2 ^ (min (toNat 1) Zb)))) + a3_)) - r64_))))
 (.t (decide ((wrap .i64 ((wrap .i64 ((wrap .i64 (Int.fdiv (wrap .u64 (wrap .i64 (a2_ + a4_))) (2 ^ (min (toNat 1) Zb)))) + a3_)) - r64_)) < a4_))
 (.c (List (Yc × ((Nat × Value) × Y1))) (rec_ (wrap .i64 (Int.fdiv (wrap .u64 (wrap .i64 (a2_ + a4_))) (2 ^ (min (toNat 1) Zb)))) (wrap .i64 ((wrap .i64 ((wrap .i64 (Int.fdiv (wrap .u64 (wrap .i64 (a2_ + a4_))) (2 ^ (min (toNat 1) Zb)))) + a3_)) - r64_)) a4_ a5_ a1_) fun r72_ =>
 .l r72_)
 (.l a1_))
 (.l a1_)))
 (.t (decide ((wrap .i64 (Int.fdiv (wrap .u64 (wrap .i64 (a2_ + a4_))) (2 ^ (min (toNat 1) Zb)))) < (wrap .i64 ((wrap .i64 ((wrap .i64 (Int.fdiv (wrap .u64 (wrap .i64 (a2_ + a4_))) (2 ^ (min (toNat 1) Zb)))) + a3_)) - r64_))))
 (.t (decide ((wrap .i64 ((wrap .i64 ((wrap .i64 (Int.fdiv (wrap .u64 (wrap .i64 (a2_ + a4_))) (2 ^ (min (toNat 1) Zb)))) + a3_)) - r64_)) < a4_))
 (.c (List (Yc × ((Nat × Value) × Y1))) (rec_ (wrap .i64 (Int.fdiv (wrap .u64 (wrap .i64 (a2_ + a4_))) (2 ^ (min (toNat 1) Zb)))) (wrap .i64 ((wrap .i64 ((wrap .i64 (Int.fdiv (wrap .u64 (wrap .i64 (a2_ + a4_))) (2 ^ (min (toNat 1) Zb)))) + a3_)) - r64_)) a4_ a5_ a1_) fun r73_ =>
 .l r73_)
 (.l a1_))
 (.l a1_))))
 (.t (decide (a2_ < r64_))
 (.t (decide (r64_ < (wrap .i64 (Int.fdiv (wrap .u64 (wrap .i64 (a2_ + a4_))) (2 ^ (min (toNat 1) Zb))))))
 (.c (List (Yc × ((Nat × Value) × Y1))) (rec_ a2_ r64_ (wrap .i64 (Int.fdiv (wrap .u64 (wrap .i64 (a2_ + a4_))) (2 ^ (min (toNat 1) Zb)))) a5_ a1_) fun r74_ =>
 .t (decide ((wrap .i64 (Int.fdiv (wrap .u64 (wrap .i64 (a2_ + a4_))) (2 ^ (min (toNat 1) Zb)))) < (wrap .i64 ((wrap .i64 ((wrap .i64 (Int.fdiv (wrap .u64 (wrap .i64 (a2_ + a4_))) (2 ^ (min (toNat 1) Zb)))) + a3_)) - r64_))))
 (.t (decide ((wrap .i64 ((wrap .i64 ((wrap .i64 (Int.fdiv (wrap .u64 (wrap .i64 (a2_ + a4_))) (2 ^ (min (toNat 1) Zb)))) + a3_)) - r64_)) < a4_))
 (.c (List (Yc × ((Nat × Value) × Y1))) (rec_ (wrap .i64 (Int.fdiv (wrap .u64 (wrap .i64 (a2_ + a4_))) (2 ^ (min (toNat 1) Zb)))) (wrap .i64 ((wrap .i64 ((wrap .i64 (Int.fdiv (wrap .u64 (wrap .i64 (a2_ + a4_))) (2 ^ (min (toNat 1) Zb)))) + a3_)) - r64_)) a4_ a5_ r74_) fun r75_ =>
 .l r75_)
 (.l r74_))
 (.l r74_))
 (.t (decide ((wrap .i64 (Int.fdiv (wrap .u64 (wrap .i64 (a2_ + a4_))) (2 ^ (min (toNat 1) Zb)))) < (wrap .i64 ((wrap .i64 ((wrap .i64 (Int.fdiv (wrap .u64 (wrap .i64 (a2_ + a4_))) (2 ^ (min (toNat 1) Zb)))) + a3_)) - r64_))))
 (.t (decide ((wrap .i64 ((wrap .i64 ((wrap .i64 (Int.fdiv (wrap .u64 (wrap .i64 (a2_ + a4_))) (2 ^ (min (toNat 1) Zb)))) + a3_)) - r64_)) < a4_))
 (.c (List (Yc × ((Nat × Value) × Y1))) (rec_ (wrap .i64 (Int.fdiv (wrap .u64 (wrap .i64 (a2_ + a4_))) (2 ^ (min (toNat 1) Zb)))) (wrap .i64 ((wrap .i64 ((wrap .i64 (Int.fdiv (wrap .u64 (wrap .i64 (a2_ + a4_))) (2 ^ (min (toNat 1) Zb)))) + a3_)) - r64_)) a4_ a5_ a1_) fun r76_ =>
 .l r76_)
 (.l a1_))
 (.l a1_)))
 (.t (decide ((wrap .i64 (Int.fdiv (wrap .u64 (wrap .i64 (a2_ + a4_))) (2 ^ (min (toNat 1) Zb)))) < (wrap .i64 ((wrap .i64 ((wrap .i64 (Int.fdiv (wrap .u64 (wrap .i64 (a2_ + a4_))) (2 ^ (min (toNat 1) Zb)))) + a3_)) - r64_))))
 (.t (decide ((wrap .i64 ((wrap .i64 ((wrap .i64 (Int.fdiv (wrap .u64 (wrap .i64 (a2_ + a4_))) (2 ^ (min (toNat 1) Zb)))) + a3_)) - r64_)) < a4_))
 (.c (List (Yc × ((Nat × Value) × Y1))) (rec_ (wrap .i64 (Int.fdiv (wrap .u64 (wrap .i64 (a2_ + a4_))) (2 ^ (min (toNat 1) Zb)))) (wrap .i64 ((wrap .i64 ((wrap .i64 (Int.fdiv (wrap .u64 (wrap .i64 (a2_ + a4_))) (2 ^ (min (toNat 1) Zb)))) + a3_)) - r64_)) a4_ a5_ a1_) fun r77_ =>
 .l r77_)
 (.l a1_))
 (.l a1_))))))
noncomputable def wex : Nat → (Int) → (Int) → (Int) → ((HL [(.pair (.pair yi yi) .hdr), (.pair (.pair yi yi) .hdr)] → Option (Int))) → (List (Yc × ((Nat × Value) × Y1))) → Option (List (Yc × ((Nat × Value) × Y1)))
 | 0 => fun _ _ _ _ _ => none
 | n + 1 => fun a2_ a3_ a4_ a5_ a1_ => (waem (wex n) a2_ a3_ a4_ a5_ a1_).ev
noncomputable def wbip : RetK := { acts := [], res := [], sh := .nil, obs := [(64, .arr 75 (.pair (.pair yi yi) .hdr))], pins := [(0, 0, 64)] }
noncomputable def wang (rec_ : (Int) → (Int) → (Int) → ((HL [(.pair (.pair yi yi) .hdr), (.pair (.pair yi yi) .hdr)] → Option (Int))) → (List (Yc × ((Nat × Value) × Y1))) → Option (List (Yc × ((Nat × Value) × Y1)))) : FD where
 A := (yj [.arr 64, .dat yi, .dat yi, .dat yi, .clo [(.pair (.pair yi yi) .hdr), (.pair (.pair yi yi) .hdr)] yi])
 ins := [(64, .arr 75 (.pair (.pair yi yi) .hdr))]
 lend := [.arg 0]
 R := List (Yc × ((Nat × Value) × Y1))
 F := fun x => rec_ x.1.2.1 x.1.2.2.1 x.1.2.2.2.1 x.1.2.2.2.2.1 x.2.1
 emb := fun r => ([], [(64, .arr 75 (.pair (.pair yi yi) .hdr) r)])
noncomputable def warn (n : Nat) : FD := wang (wex n)
noncomputable def wur (rec_ : (Int) → (Int) → (Int) → ((HL [(.pair (.pair yi yi) .hdr), (.pair (.pair yi yi) .hdr)] → Option (Int))) → (List (Yc × ((Nat × Value) × Y1))) → Option (List (Yc × ((Nat × Value) × Y1)))) : Env := waa [(139, warj), (116, wang rec_)]
noncomputable def wus (rec_ : (Int) → (Int) → (Int) → ((HL [(.pair (.pair yi yi) .hdr), (.pair (.pair yi yi) .hdr)] → Option (Int))) → (List (Yc × ((Nat × Value) × Y1))) → Option (List (Yc × ((Nat × Value) × Y1)))) : List (Nat × LD) := [(0, wxh rec_), (2, wxi rec_), (4, wxj rec_), (6, wxk rec_), (8, wxl rec_)]
noncomputable def wut : Code := (f116.body).getD .skip
noncomputable def wiv (k : Int × (((HL [(.pair (.pair yi yi) .hdr), (.pair (.pair yi yi) .hdr)] → Option (Int))) × Int)) (v : Int × (Int × (List (Yc × ((Nat × Value) × Y1))))) : Tr ((Int × (Int × (List (Yc × ((Nat × Value) × Y1))))) ⊕ (Int × (List (Yc × ((Nat × Value) × Y1))))) :=
 .t (decide (v.2.1 ≤ k.1))
 (.c (List (Yc × ((Nat × Value) × Y1))) (waae v.1 v.2.1 k.2.1 v.2.2) fun r7_ =>
 .l (.inl (v.2.1, ((wrap .i64 (v.2.1 + k.2.2)), r7_))))
 (.l (.inr (v.1, v.2.2)))
noncomputable def wmb (k : Int × (((HL [(.pair (.pair yi yi) .hdr), (.pair (.pair yi yi) .hdr)] → Option (Int))) × Int)) (v : Int × (Int × (List (Yc × ((Nat × Value) × Y1))))) : Option (Int × (List (Yc × ((Nat × Value) × Y1)))) := iter (fun v => (wiv k v).ev) v
noncomputable def wxm : LD := ⟨{ acts := [], S := { slots := [0, 1, 2, 6, 7, 8], sh := (yj [.arr 64, .dat yi, .clo [(.pair (.pair yi yi) .hdr), (.pair (.pair yi yi) .hdr)] yi, .dat yi, .dat yi, .dat yi]), obs := [(64, .arr 75 (.pair (.pair yi yi) .hdr))] } }, [(0, { acts := [], S := { slots := [0, 1, 2, 6, 7], sh := (yj [.arr 64, .dat yi, .clo [(.pair (.pair yi yi) .hdr), (.pair (.pair yi yi) .hdr)] yi, .dat yi, .dat yi]), obs := [(64, .arr 75 (.pair (.pair yi yi) .hdr))] } })], (yh [] .nil), Int × (((HL [(.pair (.pair yi yi) .hdr), (.pair (.pair yi yi) .hdr)] → Option (Int))) × Int), Int × (Int × (List (Yc × ((Nat × Value) × Y1)))), Int × (List (Yc × ((Nat × Value) × Y1))), fun k v => (((), (k.1, (k.2.1, (k.2.2, (v.1, (v.2.1, ())))))), (v.2.2, ())), fun t => (t.1.2.1, (t.1.2.2.1, t.1.2.2.2.1)), fun t => (t.1.2.2.2.2.1, (t.1.2.2.2.2.2.1, t.2.1)), wiv, fun k r => .l (.exit 0 (wbj ({ slots := [0, 1, 2, 6, 7], sh := (yj [.arr 64, .dat yi, .clo [(.pair (.pair yi yi) .hdr), (.pair (.pair yi yi) .hdr)] yi, .dat yi, .dat yi]), obs := [(64, .arr 75 (.pair (.pair yi yi) .hdr))] }) (((), (k.1, (k.2.1, (k.2.2, (r.1, ()))))), (r.2, ()))))⟩
noncomputable def wiw (k : Int × (((HL [(.pair (.pair yi yi) .hdr), (.pair (.pair yi yi) .hdr)] → Option (Int))) × Int)) (v : Int × (Int × (List (Yc × ((Nat × Value) × Y1))))) : Tr ((Int × (Int × (List (Yc × ((Nat × Value) × Y1))))) ⊕ (Int × (List (Yc × ((Nat × Value) × Y1))))) :=
 .t (decide (v.2.1 ≤ k.1))
 (.c (List (Yc × ((Nat × Value) × Y1))) (wex 1000000 v.1 (wrap .i64 (v.1 + k.2.2)) v.2.1 k.2.1 v.2.2) fun r25_ =>
 .l (.inl (v.2.1, ((wrap .i64 (v.2.1 + (wrap .i64 ((2 : Int) * k.2.2)))), r25_))))
 (.l (.inr (v.1, v.2.2)))
noncomputable def wmc (k : Int × (((HL [(.pair (.pair yi yi) .hdr), (.pair (.pair yi yi) .hdr)] → Option (Int))) × Int)) (v : Int × (Int × (List (Yc × ((Nat × Value) × Y1))))) : Option (Int × (List (Yc × ((Nat × Value) × Y1)))) := iter (fun v => (wiw k v).ev) v
noncomputable def wxn : LD := ⟨{ acts := [], S := { slots := [0, 1, 2, 6, 7, 8], sh := (yj [.arr 64, .dat yi, .clo [(.pair (.pair yi yi) .hdr), (.pair (.pair yi yi) .hdr)] yi, .dat yi, .dat yi, .dat yi]), obs := [(64, .arr 75 (.pair (.pair yi yi) .hdr))] } }, [(4, { acts := [], S := { slots := [0, 1, 2, 6, 7], sh := (yj [.arr 64, .dat yi, .clo [(.pair (.pair yi yi) .hdr), (.pair (.pair yi yi) .hdr)] yi, .dat yi, .dat yi]), obs := [(64, .arr 75 (.pair (.pair yi yi) .hdr))] } })], (yh [] .nil), Int × (((HL [(.pair (.pair yi yi) .hdr), (.pair (.pair yi yi) .hdr)] → Option (Int))) × Int), Int × (Int × (List (Yc × ((Nat × Value) × Y1)))), Int × (List (Yc × ((Nat × Value) × Y1))), fun k v => (((), (k.1, (k.2.1, (k.2.2, (v.1, (v.2.1, ())))))), (v.2.2, ())), fun t => (t.1.2.1, (t.1.2.2.1, t.1.2.2.2.1)), fun t => (t.1.2.2.2.2.1, (t.1.2.2.2.2.2.1, t.2.1)), wiw, fun k r => .l (.exit 4 (wbj ({ slots := [0, 1, 2, 6, 7], sh := (yj [.arr 64, .dat yi, .clo [(.pair (.pair yi yi) .hdr), (.pair (.pair yi yi) .hdr)] yi, .dat yi, .dat yi]), obs := [(64, .arr 75 (.pair (.pair yi yi) .hdr))] }) (((), (k.1, (k.2.1, (k.2.2, (r.1, ()))))), (r.2, ()))))⟩
noncomputable def wix (k : Int × ((HL [(.pair (.pair yi yi) .hdr), (.pair (.pair yi yi) .hdr)] → Option (Int)))) (v : Int × (List (Yc × ((Nat × Value) × Y1)))) : Tr ((Int × (List (Yc × ((Nat × Value) × Y1)))) ⊕ (List (Yc × ((Nat × Value) × Y1)))) :=
 .t (decide (v.1 < k.1))
 (.c (Int × (List (Yc × ((Nat × Value) × Y1)))) (wmc (k.1, (k.2, v.1)) ((0 : Int), ((wrap .i64 ((2 : Int) * v.1)), v.2))) fun r31_ =>
 .t (decide ((wrap .i64 (r31_.1 + v.1)) < k.1))
 (.c (List (Yc × ((Nat × Value) × Y1))) (wex 1000000 r31_.1 (wrap .i64 (r31_.1 + v.1)) k.1 k.2 r31_.2) fun r32_ =>
 .l (.inl ((wrap .i64 (v.1 * (2 : Int))), r32_)))
 (.l (.inl ((wrap .i64 (v.1 * (2 : Int))), r31_.2))))
 (.l (.inr v.2))
noncomputable def wmd (k : Int × ((HL [(.pair (.pair yi yi) .hdr), (.pair (.pair yi yi) .hdr)] → Option (Int)))) (v : Int × (List (Yc × ((Nat × Value) × Y1)))) : Option (List (Yc × ((Nat × Value) × Y1))) := iter (fun v => (wix k v).ev) v
noncomputable def wxo : LD := ⟨{ acts := [], S := { slots := [0, 1, 2, 6], sh := (yj [.arr 64, .dat yi, .clo [(.pair (.pair yi yi) .hdr), (.pair (.pair yi yi) .hdr)] yi, .dat yi]), obs := [(64, .arr 75 (.pair (.pair yi yi) .hdr))] } }, [(2, { acts := [], S := { slots := [0], sh := Zq, obs := [(64, .arr 75 (.pair (.pair yi yi) .hdr))] } })], (yh [] .nil), Int × ((HL [(.pair (.pair yi yi) .hdr), (.pair (.pair yi yi) .hdr)] → Option (Int))), Int × (List (Yc × ((Nat × Value) × Y1))), List (Yc × ((Nat × Value) × Y1)), fun k v => (((), (k.1, (k.2, (v.1, ())))), (v.2, ())), fun t => (t.1.2.1, t.1.2.2.1), fun t => (t.1.2.2.2.1, t.2.1), wix, fun _ r => .l (.exit 2 (wbj ({ slots := [0], sh := Zq, obs := [(64, .arr 75 (.pair (.pair yi yi) .hdr))] }) (((), ()), (r, ()))))⟩
noncomputable def waro (a2_ : Int) (a3_ : (HL [(.pair (.pair yi yi) .hdr), (.pair (.pair yi yi) .hdr)] → Option (Int))) (a1_ : List (Yc × ((Nat × Value) × Y1))) : Tr (List (Yc × ((Nat × Value) × Y1))) :=
 .c (Int × (List (Yc × ((Nat × Value) × Y1)))) (wmb (a2_, (a3_, (20 : Int))) ((0 : Int), ((20 : Int), a1_))) fun r13_ =>
 .c (List (Yc × ((Nat × Value) × Y1))) (waae r13_.1 a2_ a3_ r13_.2) fun r14_ =>
 .c (List (Yc × ((Nat × Value) × Y1))) (wmd (a2_, a3_) ((20 : Int), r14_)) fun r34_ =>
 .l r34_
noncomputable def warp (a2_ : Int) (a3_ : (HL [(.pair (.pair yi yi) .hdr), (.pair (.pair yi yi) .hdr)] → Option (Int))) (a1_ : List (Yc × ((Nat × Value) × Y1))) : Option (List (Yc × ((Nat × Value) × Y1))) := (waro a2_ a3_ a1_).ev
noncomputable def wbiq : RetK := { acts := [], res := [], sh := .nil, obs := [(64, .arr 75 (.pair (.pair yi yi) .hdr))], pins := [(0, 0, 64)] }
noncomputable def warq : FD := yd (yj [.arr 64, .dat yi, .clo [(.pair (.pair yi yi) .hdr), (.pair (.pair yi yi) .hdr)] yi]) [(64, .arr 75 (.pair (.pair yi yi) .hdr))] [.arg 0] (List (Yc × ((Nat × Value) × Y1))) (fun x => warp x.1.2.1 x.1.2.2.1 x.2.1) (fun r => ([], [(64, .arr 75 (.pair (.pair yi yi) .hdr) r)]))
noncomputable def waen : Env := waa [(115, warc), (116, warn 1000000)]
noncomputable def waeo : List (Nat × LD) := [(0, wxm), (4, wxn), (2, wxo)]
noncomputable def waep : Code := (f94.body).getD .skip
noncomputable def warr (a2_ : (HL [(.pair (.pair yi yi) .hdr), (.pair (.pair yi yi) .hdr)] → Option (Int))) (a1_ : List (Yc × ((Nat × Value) × Y1))) : Tr (List (Yc × ((Nat × Value) × Y1))) :=
 .c (List (Yc × ((Nat × Value) × Y1))) (warp ((length a1_ : Nat) : Int) a2_ a1_) fun r1_ =>
 .l r1_
noncomputable def wajs (a2_ : (HL [(.pair (.pair yi yi) .hdr), (.pair (.pair yi yi) .hdr)] → Option (Int))) (a1_ : List (Yc × ((Nat × Value) × Y1))) : Option (List (Yc × ((Nat × Value) × Y1))) := (warr a2_ a1_).ev
noncomputable def wbir : RetK := { acts := [], res := [], sh := .nil, obs := [(64, .arr 75 (.pair (.pair yi yi) .hdr))], pins := [(0, 0, 64)] }
noncomputable def wajt : FD := yd (yj [.arr 64, .clo [(.pair (.pair yi yi) .hdr), (.pair (.pair yi yi) .hdr)] yi]) [(64, .arr 75 (.pair (.pair yi yi) .hdr))] [.arg 0] (List (Yc × ((Nat × Value) × Y1))) (fun x => wajs x.1.2.1 x.2.1) (fun r => ([], [(64, .arr 75 (.pair (.pair yi yi) .hdr) r)]))
noncomputable def T_ze (a1_ : Int) (a2_ : Int) (_a3_ : (Nat × Value) × Y1) (a4_ : Int) (a5_ : Int) (_a6_ : (Nat × Value) × Y1) : Tr (Int) :=
 .g (inR 0 2) <|
 .g (inR 0 2) <|
 .c (Int) (F_za a1_ a4_) fun r1_ =>
 .g (inR 1 2) <|
 .g (inR 1 2) <|
 .c (Int) (F_za a2_ a5_) fun r2_ =>
 .c (Int) (F_zb ([r1_, r2_] : Y1)) fun r3_ =>
 .l r3_
noncomputable def F_ze (a1_ : Int) (a2_ : Int) (a3_ : (Nat × Value) × Y1) (a4_ : Int) (a5_ : Int) (a6_ : (Nat × Value) × Y1) : Option (Int) := (T_ze a1_ a2_ a3_ a4_ a5_ a6_).ev
noncomputable def K_ze : RetK := yr [.tmp 4] Zf
noncomputable def D_ze : FD := yd (yj [.agg (yj [.dat yi, .dat yi, .dat .hdr]), .agg (yj [.dat yi, .dat yi, .dat .hdr])]) [] [] Int (fun x => F_ze x.1.1.1 x.1.1.2.1 x.1.1.2.2.1 x.1.2.1.1 x.1.2.1.2.1 x.1.2.1.2.2.1) (fun r => ([.dat yi r], []))
noncomputable def wav (k : Int × (Int × ((List ((Nat × Value) × Y1)) × (Int × Yl)))) (v : Int × (List (Yc × ((Nat × Value) × Y1)))) : Tr ((Int × (List (Yc × ((Nat × Value) × Y1)))) ⊕ (List (Yc × ((Nat × Value) × Y1)))) :=
 .t (decide (v.1 < k.2.2.2.1))
 (.g (inR v.1 (length k.2.2.1)) <|
 .c (Int) (F_zn k.2.2.2.2.1 k.2.2.2.2.2 (getD k.2.2.1 (toNat v.1) (((0, .slice none 0 0), []) : (Nat × Value) × Y1)) k.1) fun r10_ =>
 .c (Int) (F_zn k.2.2.2.2.1 k.2.2.2.2.2 (getD k.2.2.1 (toNat v.1) (((0, .slice none 0 0), []) : (Nat × Value) × Y1)) k.2.1) fun r11_ =>
 .g (decide ((length v.2 + length ([((r10_, r11_), (getD k.2.2.1 (toNat v.1) (((0, .slice none 0 0), []) : (Nat × Value) × Y1)))] : List (Yc × ((Nat × Value) × Y1)))) * 40 ≤ 140737488355328)) <|
 .l (.inl ((wrap .i64 (v.1 + 1)), (v.2 ++ ([((r10_, r11_), (getD k.2.2.1 (toNat v.1) (((0, .slice none 0 0), []) : (Nat × Value) × Y1)))] : List (Yc × ((Nat × Value) × Y1)))))))
 (.l (.inr v.2))
noncomputable def wca (k : Int × (Int × ((List ((Nat × Value) × Y1)) × (Int × Yl)))) (v : Int × (List (Yc × ((Nat × Value) × Y1)))) : Option (List (Yc × ((Nat × Value) × Y1))) := iter (fun v => (wav k v).ev) v
noncomputable def wdd : LD := ⟨{ acts := [], S := { slots := [1, 2, 3, 8, 20, 21, 22], sh := (yj [.dat yi, .dat yi, .box 3 0, .arr 16, .dat (.slice .hdr), .dat yi, .dat yi]), obs := [(3, .cells Zg), (16, .arr 75 (.pair (.pair yi yi) .hdr))] } }, [(0, { acts := [], S := { slots := [8], sh := (yj [.arr 16]), obs := [(16, .arr 75 (.pair (.pair yi yi) .hdr))] } })], (yh [] .nil), Int × (Int × ((List ((Nat × Value) × Y1)) × (Int × Yl))), Int × (List (Yc × ((Nat × Value) × Y1))), List (Yc × ((Nat × Value) × Y1)), fun k v => ((k.1, (k.2.1, ((), ((), (k.2.2.1, (k.2.2.2.1, (v.1, ()))))))), ((k.2.2.2.2.1, (k.2.2.2.2.2, ())), (v.2, ()))), fun t => (t.1.1, (t.1.2.1, (t.1.2.2.2.2.1, (t.1.2.2.2.2.2.1, (t.2.1.1, t.2.1.2.1))))), fun t => (t.1.2.2.2.2.2.2.1, t.2.2.1), wav, fun _ r => .l (.exit 0 (wbj ({ slots := [8], sh := (yj [.arr 16]), obs := [(16, .arr 75 (.pair (.pair yi yi) .hdr))] }) (((), ()), (r, ()))))⟩
noncomputable def wan (k : Int × (List (Yc × ((Nat × Value) × Y1)))) (v : Int × ((List Yc) × (List ((Nat × Value) × Y1)))) : Tr ((Int × ((List Yc) × (List ((Nat × Value) × Y1)))) ⊕ ((List Yc) × (List ((Nat × Value) × Y1)))) :=
 .t (decide (v.1 < k.1))
 (.g (inR v.1 (length k.2)) <|
 .g (decide ((toNat v.1) < length k.2)) <|
 .t (((length v.2.1 : Nat) : Int) == (0 : Int))
 (.g (decide ((length v.2.1 + length ([(getD k.2 (toNat v.1) (((0 : Int), (0 : Int)), (((0, .slice none 0 0), []) : (Nat × Value) × Y1))).1] : List Yc)) * 16 ≤ 140737488355328)) <|
 .g (decide ((length v.2.2 + length ([(getD k.2 (toNat v.1) (((0 : Int), (0 : Int)), (((0, .slice none 0 0), []) : (Nat × Value) × Y1))).2] : List ((Nat × Value) × Y1))) * 24 ≤ 140737488355328)) <|
 .l (.inl ((wrap .i64 (v.1 + 1)), ((v.2.1 ++ ([(getD k.2 (toNat v.1) (((0 : Int), (0 : Int)), (((0, .slice none 0 0), []) : (Nat × Value) × Y1))).1] : List Yc)), (v.2.2 ++ ([(getD k.2 (toNat v.1) (((0 : Int), (0 : Int)), (((0, .slice none 0 0), []) : (Nat × Value) × Y1))).2] : List ((Nat × Value) × Y1)))))))
 (.g (inR 1 2) <|
 .g (inR (wrap .i64 (((length v.2.1 : Nat) : Int) - 1)) (length v.2.1)) <|
 .g (decide ((toNat (wrap .i64 (((length v.2.1 : Nat) : Int) - 1))) < length v.2.1)) <|
 .t (decide ((getD k.2 (toNat v.1) (((0 : Int), (0 : Int)), (((0, .slice none 0 0), []) : (Nat × Value) × Y1))).1.2 < (getD v.2.1 (toNat (wrap .i64 (((length v.2.1 : Nat) : Int) - 1))) ((0 : Int), (0 : Int))).2))
 (.g (decide ((length v.2.1 + length ([(getD k.2 (toNat v.1) (((0 : Int), (0 : Int)), (((0, .slice none 0 0), []) : (Nat × Value) × Y1))).1] : List Yc)) * 16 ≤ 140737488355328)) <|
 .g (decide ((length v.2.2 + length ([(getD k.2 (toNat v.1) (((0 : Int), (0 : Int)), (((0, .slice none 0 0), []) : (Nat × Value) × Y1))).2] : List ((Nat × Value) × Y1))) * 24 ≤ 140737488355328)) <|
 .l (.inl ((wrap .i64 (v.1 + 1)), ((v.2.1 ++ ([(getD k.2 (toNat v.1) (((0 : Int), (0 : Int)), (((0, .slice none 0 0), []) : (Nat × Value) × Y1))).1] : List Yc)), (v.2.2 ++ ([(getD k.2 (toNat v.1) (((0 : Int), (0 : Int)), (((0, .slice none 0 0), []) : (Nat × Value) × Y1))).2] : List ((Nat × Value) × Y1)))))))
 (.l (.inl ((wrap .i64 (v.1 + 1)), (v.2.1, v.2.2))))))
 (.l (.inr (v.2.1, v.2.2)))
noncomputable def wcb (k : Int × (List (Yc × ((Nat × Value) × Y1)))) (v : Int × ((List Yc) × (List ((Nat × Value) × Y1)))) : Option ((List Yc) × (List ((Nat × Value) × Y1))) := iter (fun v => (wan k v).ev) v
noncomputable def wde : LD := ⟨{ acts := [], S := { slots := [11, 12, 45, 46, 47], sh := (yj [.arr 43, .arr 44, .arr 16, .dat yi, .dat yi]), obs := [(43, .arr 61 (.pair yi yi)), (44, .arr 22 .hdr), (16, .arr 75 (.pair (.pair yi yi) .hdr))] } }, [(2, { acts := [], S := { slots := [11, 12], sh := (yj [.arr 43, .arr 44]), obs := [(43, .arr 61 (.pair yi yi)), (44, .arr 22 .hdr)] } })], (yh [] .nil), Int × (List (Yc × ((Nat × Value) × Y1))), Int × ((List Yc) × (List ((Nat × Value) × Y1))), (List Yc) × (List ((Nat × Value) × Y1)), fun k v => (((), ((), ((), (k.1, (v.1, ()))))), (v.2.1, (v.2.2, (k.2, ())))), fun t => (t.1.2.2.2.1, t.2.2.2.1), fun t => (t.1.2.2.2.2.1, (t.2.1, t.2.2.1)), wan, fun _ r => .l (.exit 2 (wbj ({ slots := [11, 12], sh := (yj [.arr 43, .arr 44]), obs := [(43, .arr 61 (.pair yi yi)), (44, .arr 22 .hdr)] }) (((), ((), ())), (r.1, (r.2, ())))))⟩
noncomputable def whn : FrTr := fun a1_ a2_ a3_ a4_ r1_ =>
 .c (List (Yc × ((Nat × Value) × Y1))) (wca (a3_, (a4_, (r1_, (((length r1_ : Nat) : Int), (a1_, a2_))))) ((0 : Int), ([] : List (Yc × ((Nat × Value) × Y1))))) fun r13_ =>
 .c (List (Yc × ((Nat × Value) × Y1))) (wajs (fun h14_ => Option.bind (F_ze h14_.1.1.1 h14_.1.1.2 h14_.1.2 h14_.2.1.1.1 h14_.2.1.1.2 h14_.2.1.2) fun y15_ => some y15_) r13_) fun r16_ =>
 .c ((List Yc) × (List ((Nat × Value) × Y1))) (wcb (((length r16_ : Nat) : Int), r16_) ((0 : Int), (([] : List Yc), ([] : List ((Nat × Value) × Y1))))) fun r24_ =>
 .l (r24_.1, r24_.2)
noncomputable def wco : Nat → Nat → List Nat := fun r i => match look [(14, [(0, [60000000, 90000051, 90000059, 90000062, 90000063])])] r with
 | some l => (look l i).getD []
 | none => []
noncomputable def wbs : Env := waa [(62, D_zn), (63, wajt), (63, wajt), (64, D_ze)]
noncomputable def wcp : List (Nat × LD) := [(0, wdd), (2, wde)]
end Go.Proofs.Ytnagpmhaddfgmaa
