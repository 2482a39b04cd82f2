import Derived.Test.YtnagpmhaddfgmaaGreatB40
import Derived.Test.YtnagpmhaddfgmaaGreatProg
namespace Go.Proofs.YtnagpmhaddfgmaaGreat
open Go.Proofs.Tryz
open List (length getD set)
open Int (toNat)
open IntKind (wrap)
abbrev yi : Ty := .int .i64
abbrev y1 : Ty := .slice yi
abbrev y2 : Ty := .slice y1
abbrev y3 : Ty := .slice y2
abbrev Y1 : Type := List Int
abbrev Y2 : Type := List Y1
abbrev Y3 : Type := List Y2
abbrev yh (l : List Nat) (s : Sh) : Keep := { acts := [], S := { slots := l, sh := s, obs := [] } }
abbrev ys (l : List Nat) (s : Sh) : SSh := { slots := l, sh := s, obs := [] }
abbrev yd (A : Sh) (I : List (Nat × OSh)) (L : List LP) (R : Type) (F : A.I × OL I → Option R) (e : R → List AV × List (Nat × Ob)) : FD := { A := A, ins := I, lend := L, R := R, F := F, emb := e }
abbrev yr (r : List ResultVar) (s : Sh) : RetK := { acts := [], res := r, sh := s, obs := [], pins := [] }
abbrev yj : List Sh → Sh
  | [] => .nil
  | a :: l => .cons a (yj l)
noncomputable def tabl : List (Nat × TD) := [(3, .sc yi), (4, .sc .bool), (5, .sc (.int .u8)), (9, .sc .str), (22, .sl 5 (.int .u8) 1), (24, .sl 3 yi 8), (25, .sl 24 y1 24), (108, .sc (.int .u64)), (110, .st (.pair (.slice (.int .u8)) (.pair yi (.int .u64))) [(22, (.slice (.int .u8))), (3, yi), (108, (.int .u64))]), (145, .sc (.int .u64)), (220, .sc (.int .u64))]
noncomputable def tt : Nat → TD := fun i => match look tabl i with
 | some d => d
 | none => .no
noncomputable def wbbu (a1_ : Y1) : Tr (Bool) :=
 .l (decide ((65536 : Int) < ((length a1_ : Nat) : Int)))
noncomputable def wbbv (a1_ : Y1) : Option (Bool) := (wbbu a1_).ev
noncomputable def wbvi : RetK := yr [.tmp 2] (yj [.dat .bool])
noncomputable def wbbw : FD := yd (yj [.dat (.slice (.int .u8))]) [] [] Bool (fun x => wbbv x.1.1) (fun r => ([.dat .bool r], []))
noncomputable def wbbx (a1_ : Y1) (a2_ : Int) (a3_ : Int) : Tr (Int × (Y1 × (Int × Int))) :=
 .t (decide (a2_ < ((length a1_ : Nat) : Int)))
 (.g (inR a2_ (length a1_)) <|
 .t (decide ((wrap .i64 (a2_ + 1)) ≤ ((length a1_ : Nat) : Int)))
 (.l ((wrap .i64 (getD a1_ (toNat a2_) 0)), (a1_, ((wrap .i64 (a2_ + 1)), (wrap .u64 ((wrap .u64 ((wrap .u64 (a3_ * (6364136223846793005 : Int))) + (wrap .u64 (wrap .i64 (getD a1_ (toNat a2_) 0))))) + 462197))))))
 (.g (decide ((0 : Int) ≤ (40 : Int))) <|
 .l ((wrap .i64 (wrap .u64 (BitVec.toNat ((BitVec.ofInt (IntKind.bits .u64) (Int.fdiv (wrap .u64 ((wrap .u64 ((wrap .u64 (a3_ * (6364136223846793005 : Int))) + (wrap .u64 (wrap .i64 (getD a1_ (toNat a2_) 0))))) + 462197)) (2 ^ (min (toNat 40) (IntKind.bits .u64))))) &&& (BitVec.ofInt (IntKind.bits .u64) (255 : Int)))))), (a1_, ((wrap .i64 (a2_ + 1)), (wrap .u64 ((wrap .u64 ((wrap .u64 (a3_ * (6364136223846793005 : Int))) + (wrap .u64 (wrap .i64 (getD a1_ (toNat a2_) 0))))) + 462197)))))))
 (.t (decide ((wrap .i64 (a2_ + 1)) ≤ ((length a1_ : Nat) : Int)))
 (.l ((0 : Int), (a1_, ((wrap .i64 (a2_ + 1)), (wrap .u64 ((wrap .u64 ((wrap .u64 (a3_ * (6364136223846793005 : Int))) + (wrap .u64 (0 : Int)))) + 462197))))))
 (.g (decide ((0 : Int) ≤ (40 : Int))) <|
 .l ((wrap .i64 (wrap .u64 (BitVec.toNat ((BitVec.ofInt (IntKind.bits .u64) (Int.fdiv (wrap .u64 ((wrap .u64 ((wrap .u64 (a3_ * (6364136223846793005 : Int))) + (wrap .u64 (0 : Int)))) + 462197)) (2 ^ (min (toNat 40) (IntKind.bits .u64))))) &&& (BitVec.ofInt (IntKind.bits .u64) (255 : Int)))))), (a1_, ((wrap .i64 (a2_ + 1)), (wrap .u64 ((wrap .u64 ((wrap .u64 (a3_ * (6364136223846793005 : Int))) + (wrap .u64 (0 : Int)))) + 462197)))))))
noncomputable def wajl (a1_ : Y1) (a2_ : Int) (a3_ : Int) : Option (Int × (Y1 × (Int × Int))) := (wbbx a1_ a2_ a3_).ev
noncomputable def wbvj : RetK := { acts := [], res := [.tmp 2], sh := (yj [.dat yi]), obs := [(64, .cells (yj [.dat (.slice (.int .u8)), .dat yi, .dat (.int .u64)]))], pins := [(0, 0, 64)] }
noncomputable def wbby : FD := yd (yj [.box 64 0]) [(64, .cells (yj [.dat (.slice (.int .u8)), .dat yi, .dat (.int .u64)]))] [.arg 0] (Int × (Y1 × (Int × Int))) (fun x => wajl x.2.1.1 x.2.1.2.1 x.2.1.2.2.1) (fun r => ([.dat yi r.1], [(64, .cells [.dat (.slice (.int .u8)) r.2.1, .dat yi r.2.2.1, .dat (.int .u64) r.2.2.2])]))
noncomputable def wbbz (a4_ : Int) (a1_ : Y1) (a2_ : Int) (a3_ : Int) : Tr (Int × (Y1 × (Int × Int))) :=
 .t (decide (a4_ ≤ 1))
 (.l ((0 : Int), (a1_, (a2_, a3_))))
 (.c (Int × (Y1 × (Int × Int))) (wajl a1_ a2_ a3_) fun r1_ =>
 .t (decide (200 < a4_))
 (.c (Int × (Y1 × (Int × Int))) (wajl r1_.2.1 r1_.2.2.1 r1_.2.2.2) fun r2_ =>
 .g (!decide (a4_ = 0)) <|
 .l ((Int.tmod (wrap .i64 ((wrap .i64 (r1_.1 * (256 : Int))) + r2_.1)) a4_), (r2_.2.1, (r2_.2.2.1, r2_.2.2.2))))
 (.g (!decide (a4_ = 0)) <|
 .l ((Int.tmod r1_.1 a4_), (r1_.2.1, (r1_.2.2.1, r1_.2.2.2)))))
noncomputable def wlg (a4_ : Int) (a1_ : Y1) (a2_ : Int) (a3_ : Int) : Option (Int × (Y1 × (Int × Int))) := (wbbz a4_ a1_ a2_ a3_).ev
noncomputable def wbvk : RetK := { acts := [], res := [.tmp 4], sh := (yj [.dat yi]), obs := [(64, .cells (yj [.dat (.slice (.int .u8)), .dat yi, .dat (.int .u64)]))], pins := [(0, 0, 64)] }
noncomputable def wxi : FD := yd (yj [.box 64 0, .dat yi]) [(64, .cells (yj [.dat (.slice (.int .u8)), .dat yi, .dat (.int .u64)]))] [.arg 0] (Int × (Y1 × (Int × Int))) (fun x => wlg x.1.2.1 x.2.1.1 x.2.1.2.1 x.2.1.2.2.1) (fun r => ([.dat yi r.1], [(64, .cells [.dat (.slice (.int .u8)) r.2.1, .dat yi r.2.2.1, .dat (.int .u64) r.2.2.2])]))
noncomputable def wbca (a4_ : Y1) (a1_ : Y1) (a2_ : Int) (a3_ : Int) : Tr (Int × (Y1 × (Int × Int))) :=
 .c (Int × (Y1 × (Int × Int))) (wlg ((length a4_ : Nat) : Int) a1_ a2_ a3_) fun r1_ =>
 .g (inR r1_.1 (length a4_)) <|
 .l ((getD a4_ (toNat r1_.1) 0), (r1_.2.1, (r1_.2.2.1, r1_.2.2.2)))
noncomputable def wun (a4_ : Y1) (a1_ : Y1) (a2_ : Int) (a3_ : Int) : Option (Int × (Y1 × (Int × Int))) := (wbca a4_ a1_ a2_ a3_).ev
noncomputable def wbvl : RetK := { acts := [], res := [.tmp 4], sh := (yj [.dat yi]), obs := [(64, .cells (yj [.dat (.slice (.int .u8)), .dat yi, .dat (.int .u64)]))], pins := [(0, 0, 64)] }
noncomputable def wafj : FD := yd (yj [.box 64 0, .dat y1]) [(64, .cells (yj [.dat (.slice (.int .u8)), .dat yi, .dat (.int .u64)]))] [.arg 0] (Int × (Y1 × (Int × Int))) (fun x => wun x.1.2.1 x.2.1.1 x.2.1.2.1 x.2.1.2.2.1) (fun r => ([.dat yi r.1], [(64, .cells [.dat (.slice (.int .u8)) r.2.1, .dat yi r.2.2.1, .dat (.int .u64) r.2.2.2])]))
noncomputable def wbcb (a1_ : Int) (a2_ : Int) : Tr (Int) :=
 .t (decide (a1_ < a2_))
 (.l a1_)
 (.l a2_)
noncomputable def wxj (a1_ : Int) (a2_ : Int) : Option (Int) := (wbcb a1_ a2_).ev
noncomputable def wbvm : RetK := yr [.tmp 4] (yj [.dat yi])
noncomputable def wajm : FD := yd (yj [.dat yi, .dat yi]) [] [] Int (fun x => wxj x.1.1 x.1.2.1) (fun r => ([.dat yi r], []))
noncomputable def wbcc (a4_ : Int) (a1_ : Y1) (a2_ : Int) (a3_ : Int) : Tr (Bool × (Y1 × (Int × Int))) :=
 .c (Int × (Y1 × (Int × Int))) (wlg a4_ a1_ a2_ a3_) fun r1_ =>
 .l ((r1_.1 == 0), (r1_.2.1, (r1_.2.2.1, r1_.2.2.2)))
noncomputable def wafk (a4_ : Int) (a1_ : Y1) (a2_ : Int) (a3_ : Int) : Option (Bool × (Y1 × (Int × Int))) := (wbcc a4_ a1_ a2_ a3_).ev
noncomputable def wbvn : RetK := { acts := [], res := [.tmp 4], sh := (yj [.dat .bool]), obs := [(64, .cells (yj [.dat (.slice (.int .u8)), .dat yi, .dat (.int .u64)]))], pins := [(0, 0, 64)] }
noncomputable def warz : FD := yd (yj [.box 64 0, .dat yi]) [(64, .cells (yj [.dat (.slice (.int .u8)), .dat yi, .dat (.int .u64)]))] [.arg 0] (Bool × (Y1 × (Int × Int))) (fun x => wafk x.1.2.1 x.2.1.1 x.2.1.2.1 x.2.1.2.2.1) (fun r => ([.dat .bool r.1], [(64, .cells [.dat (.slice (.int .u8)) r.2.1, .dat yi r.2.2.1, .dat (.int .u64) r.2.2.2])]))
noncomputable def wbcd (a1_ : Int) (a2_ : Int) : Tr (Int) :=
 .t (decide (a2_ < a1_))
 (.l a1_)
 (.l a2_)
noncomputable def wasa (a1_ : Int) (a2_ : Int) : Option (Int) := (wbcd a1_ a2_).ev
noncomputable def wbvo : RetK := yr [.tmp 4] (yj [.dat yi])
noncomputable def wbce : FD := yd (yj [.dat yi, .dat yi]) [] [] Int (fun x => wasa x.1.1 x.1.2.1) (fun r => ([.dat yi r], []))
noncomputable def wnf (k : Int × (Bool)) (v : Int × (Y1 × (Int × (Int × (Y1 × Y2))))) : Tr ((Int × (Y1 × (Int × (Int × (Y1 × Y2))))) ⊕ (Y1 × (Int × (Int × (Y1 × Y2))))) :=
 .t (decide (v.1 < k.1))
 (.c (Int × (Y1 × (Int × Int))) (wlg (30 : Int) v.2.1 v.2.2.1 v.2.2.2.1) fun r12_ =>
 .g (decide ((length v.2.2.2.2.1 + length ([r12_.1] : Y1)) * 8 ≤ 140737488355328)) <|
 .g (decide (0 ≤ k.1) && decide (k.1 ≤ k.1) && decide (((8 : Nat) : Int) * k.1 ≤ 281474976710656)) <|
 .g (decide ((length v.2.2.2.2.2 + 1) * 24 ≤ 140737488355328)) <|
 .l (.inl ((wrap .i64 (v.1 + 1)), (r12_.2.1, (r12_.2.2.1, (r12_.2.2.2, ((v.2.2.2.2.1 ++ ([r12_.1] : Y1)), (set (v.2.2.2.2.2 ++ [[]]) (length v.2.2.2.2.2) (List.replicate (toNat k.1) (0 : Int))))))))))
 (.l (.inr (v.2.1, (v.2.2.1, (v.2.2.2.1, (v.2.2.2.2.1, v.2.2.2.2.2))))))
noncomputable def wajn (k : Int × (Bool)) (v : Int × (Y1 × (Int × (Int × (Y1 × Y2))))) : Option (Y1 × (Int × (Int × (Y1 × Y2)))) := iter (fun v => (wnf k v).ev) v
noncomputable def waaq : LD := ⟨{ acts := [], S := { slots := [0, 5, 6, 7, 8, 9], sh := (yj [.box 64 0, .dat yi, .dat .bool, .arr 24, .arr 25, .dat yi]), obs := [(64, .cells (yj [.dat (.slice (.int .u8)), .dat yi, .dat (.int .u64)])), (24, .arr 3 yi), (25, .rows 24 3 yi)] } }, [(0, { acts := [], S := { slots := [0, 5, 6, 7, 8], sh := (yj [.box 64 0, .dat yi, .dat .bool, .arr 24, .arr 25]), obs := [(64, .cells (yj [.dat (.slice (.int .u8)), .dat yi, .dat (.int .u64)])), (24, .arr 3 yi), (25, .rows 24 3 yi)] } })], (yh [] .nil), Int × (Bool), Int × (Y1 × (Int × (Int × (Y1 × Y2)))), Y1 × (Int × (Int × (Y1 × Y2))), fun k v => (((), (k.1, (k.2, ((), ((), (v.1, ())))))), ((v.2.1, (v.2.2.1, (v.2.2.2.1, ()))), (v.2.2.2.2.1, (v.2.2.2.2.2, ())))), fun t => (t.1.2.1, t.1.2.2.1), fun t => (t.1.2.2.2.2.2.1, (t.2.1.1, (t.2.1.2.1, (t.2.1.2.2.1, (t.2.2.1, t.2.2.2.1))))), wnf, fun k r => .l (.exit 0 (wal ({ slots := [0, 5, 6, 7, 8], sh := (yj [.box 64 0, .dat yi, .dat .bool, .arr 24, .arr 25]), obs := [(64, .cells (yj [.dat (.slice (.int .u8)), .dat yi, .dat (.int .u64)])), (24, .arr 3 yi), (25, .rows 24 3 yi)] }) (((), (k.1, (k.2, ((), ((), ()))))), ((r.1, (r.2.1, (r.2.2.1, ()))), (r.2.2.2.1, (r.2.2.2.2, ()))))))⟩
noncomputable def wng (k : Int × (Bool × (Int × Y1))) (v : Int × (Y1 × (Int × (Int × Y2)))) : Tr ((Int × (Y1 × (Int × (Int × Y2)))) ⊕ (Y1 × (Int × (Int × Y2)))) :=
 .t (decide (v.1 < k.2.2.1))
 (.c (Int × (Y1 × (Int × Int))) (wlg (12 : Int) v.2.1 v.2.2.1 v.2.2.2.1) fun r38_ =>
 .t k.2.1
 (.g (inR k.2.2.1 (length k.2.2.2)) <|
 .g (decide ((toNat k.2.2.1) < length k.2.2.2)) <|
 .g (inR v.1 (length k.2.2.2)) <|
 .g (decide ((toNat v.1) < length k.2.2.2)) <|
 .g (inR v.1 (length k.2.2.2)) <|
 .g (decide ((toNat v.1) < length k.2.2.2)) <|
 .g (inR k.2.2.1 (length k.2.2.2)) <|
 .g (decide ((toNat k.2.2.1) < length k.2.2.2)) <|
 .c (Int) (wasa (wrap .i64 ((getD k.2.2.2 (toNat k.2.2.1) 0) - (getD k.2.2.2 (toNat v.1) 0))) (wrap .i64 ((getD k.2.2.2 (toNat v.1) 0) - (getD k.2.2.2 (toNat k.2.2.1) 0)))) fun r39_ =>
 .g (inR k.2.2.1 (length v.2.2.2.2)) <|
 .g (decide ((toNat k.2.2.1) < length v.2.2.2.2)) <|
 .g (inR v.1 (length (getD v.2.2.2.2 (toNat k.2.2.1) ([] : Y1)))) <|
 .g (decide ((toNat v.1) < length (getD v.2.2.2.2 (toNat k.2.2.1) ([] : Y1)))) <|
 .g (inR v.1 (length (set v.2.2.2.2 (toNat k.2.2.1) (set (getD v.2.2.2.2 (toNat k.2.2.1) ([] : Y1)) (toNat v.1) r39_)))) <|
 .g (decide ((toNat v.1) < length (set v.2.2.2.2 (toNat k.2.2.1) (set (getD v.2.2.2.2 (toNat k.2.2.1) ([] : Y1)) (toNat v.1) r39_)))) <|
 .g (inR k.2.2.1 (length (getD (set v.2.2.2.2 (toNat k.2.2.1) (set (getD v.2.2.2.2 (toNat k.2.2.1) ([] : Y1)) (toNat v.1) r39_)) (toNat v.1) ([] : Y1)))) <|
 .g (decide ((toNat k.2.2.1) < length (getD (set v.2.2.2.2 (toNat k.2.2.1) (set (getD v.2.2.2.2 (toNat k.2.2.1) ([] : Y1)) (toNat v.1) r39_)) (toNat v.1) ([] : Y1)))) <|
 .l (.inl ((wrap .i64 (v.1 + 1)), (r38_.2.1, (r38_.2.2.1, (r38_.2.2.2, (set (set v.2.2.2.2 (toNat k.2.2.1) (set (getD v.2.2.2.2 (toNat k.2.2.1) ([] : Y1)) (toNat v.1) r39_)) (toNat v.1) (set (getD (set v.2.2.2.2 (toNat k.2.2.1) (set (getD v.2.2.2.2 (toNat k.2.2.1) ([] : Y1)) (toNat v.1) r39_)) (toNat v.1) ([] : Y1)) (toNat k.2.2.1) r39_))))))))
 (.g (inR k.2.2.1 (length v.2.2.2.2)) <|
 .g (decide ((toNat k.2.2.1) < length v.2.2.2.2)) <|
 .g (inR v.1 (length (getD v.2.2.2.2 (toNat k.2.2.1) ([] : Y1)))) <|
 .g (decide ((toNat v.1) < length (getD v.2.2.2.2 (toNat k.2.2.1) ([] : Y1)))) <|
 .g (inR v.1 (length (set v.2.2.2.2 (toNat k.2.2.1) (set (getD v.2.2.2.2 (toNat k.2.2.1) ([] : Y1)) (toNat v.1) r38_.1)))) <|
 .g (decide ((toNat v.1) < length (set v.2.2.2.2 (toNat k.2.2.1) (set (getD v.2.2.2.2 (toNat k.2.2.1) ([] : Y1)) (toNat v.1) r38_.1)))) <|
 .g (inR k.2.2.1 (length (getD (set v.2.2.2.2 (toNat k.2.2.1) (set (getD v.2.2.2.2 (toNat k.2.2.1) ([] : Y1)) (toNat v.1) r38_.1)) (toNat v.1) ([] : Y1)))) <|
 .g (decide ((toNat k.2.2.1) < length (getD (set v.2.2.2.2 (toNat k.2.2.1) (set (getD v.2.2.2.2 (toNat k.2.2.1) ([] : Y1)) (toNat v.1) r38_.1)) (toNat v.1) ([] : Y1)))) <|
 .l (.inl ((wrap .i64 (v.1 + 1)), (r38_.2.1, (r38_.2.2.1, (r38_.2.2.2, (set (set v.2.2.2.2 (toNat k.2.2.1) (set (getD v.2.2.2.2 (toNat k.2.2.1) ([] : Y1)) (toNat v.1) r38_.1)) (toNat v.1) (set (getD (set v.2.2.2.2 (toNat k.2.2.1) (set (getD v.2.2.2.2 (toNat k.2.2.1) ([] : Y1)) (toNat v.1) r38_.1)) (toNat v.1) ([] : Y1)) (toNat k.2.2.1) r38_.1)))))))))
 (.l (.inr (v.2.1, (v.2.2.1, (v.2.2.2.1, v.2.2.2.2)))))
noncomputable def wajo (k : Int × (Bool × (Int × Y1))) (v : Int × (Y1 × (Int × (Int × Y2)))) : Option (Y1 × (Int × (Int × Y2))) := iter (fun v => (wng k v).ev) v
noncomputable def waar : LD := ⟨{ acts := [], S := { slots := [0, 5, 6, 7, 8, 10, 11], sh := (yj [.box 64 0, .dat yi, .dat .bool, .arr 24, .arr 25, .dat yi, .dat yi]), obs := [(64, .cells (yj [.dat (.slice (.int .u8)), .dat yi, .dat (.int .u64)])), (24, .arr 3 yi), (25, .rows 24 3 yi)] } }, [(4, { acts := [], S := { slots := [0, 5, 6, 7, 8, 10], sh := (yj [.box 64 0, .dat yi, .dat .bool, .arr 24, .arr 25, .dat yi]), obs := [(64, .cells (yj [.dat (.slice (.int .u8)), .dat yi, .dat (.int .u64)])), (24, .arr 3 yi), (25, .rows 24 3 yi)] } })], (yh [] .nil), Int × (Bool × (Int × Y1)), Int × (Y1 × (Int × (Int × Y2))), Y1 × (Int × (Int × Y2)), fun k v => (((), (k.1, (k.2.1, ((), ((), (k.2.2.1, (v.1, ()))))))), ((v.2.1, (v.2.2.1, (v.2.2.2.1, ()))), (k.2.2.2, (v.2.2.2.2, ())))), fun t => (t.1.2.1, (t.1.2.2.1, (t.1.2.2.2.2.2.1, t.2.2.1))), fun t => (t.1.2.2.2.2.2.2.1, (t.2.1.1, (t.2.1.2.1, (t.2.1.2.2.1, t.2.2.2.1)))), wng, fun k r => .l (.exit 4 (wal ({ slots := [0, 5, 6, 7, 8, 10], sh := (yj [.box 64 0, .dat yi, .dat .bool, .arr 24, .arr 25, .dat yi]), obs := [(64, .cells (yj [.dat (.slice (.int .u8)), .dat yi, .dat (.int .u64)])), (24, .arr 3 yi), (25, .rows 24 3 yi)] }) (((), (k.1, (k.2.1, ((), ((), (k.2.2.1, ())))))), ((r.1, (r.2.1, (r.2.2.1, ()))), (k.2.2.2, (r.2.2.2, ()))))))⟩
noncomputable def wnh (k : Int × (Bool × Y1)) (v : Int × (Y1 × (Int × (Int × Y2)))) : Tr ((Int × (Y1 × (Int × (Int × Y2)))) ⊕ (Y1 × (Int × (Int × Y2)))) :=
 .t (decide (v.1 < k.1))
 (.c (Y1 × (Int × (Int × Y2))) (wajo (k.1, (k.2.1, (v.1, k.2.2))) ((0 : Int), (v.2.1, (v.2.2.1, (v.2.2.2.1, v.2.2.2.2))))) fun r48_ =>
 .l (.inl ((wrap .i64 (v.1 + 1)), (r48_.1, (r48_.2.1, (r48_.2.2.1, r48_.2.2.2))))))
 (.l (.inr (v.2.1, (v.2.2.1, (v.2.2.2.1, v.2.2.2.2)))))
noncomputable def wajp (k : Int × (Bool × Y1)) (v : Int × (Y1 × (Int × (Int × Y2)))) : Option (Y1 × (Int × (Int × Y2))) := iter (fun v => (wnh k v).ev) v
noncomputable def waas : LD := ⟨{ acts := [], S := { slots := [0, 5, 6, 7, 8, 10], sh := (yj [.box 64 0, .dat yi, .dat .bool, .arr 24, .arr 25, .dat yi]), obs := [(64, .cells (yj [.dat (.slice (.int .u8)), .dat yi, .dat (.int .u64)])), (24, .arr 3 yi), (25, .rows 24 3 yi)] } }, [(2, { acts := [], S := { slots := [0, 5, 6, 8], sh := (yj [.box 64 0, .dat yi, .dat .bool, .arr 25]), obs := [(64, .cells (yj [.dat (.slice (.int .u8)), .dat yi, .dat (.int .u64)])), (25, .rows 24 3 yi)] } })], (yh [] .nil), Int × (Bool × Y1), Int × (Y1 × (Int × (Int × Y2))), Y1 × (Int × (Int × Y2)), fun k v => (((), (k.1, (k.2.1, ((), ((), (v.1, ())))))), ((v.2.1, (v.2.2.1, (v.2.2.2.1, ()))), (k.2.2, (v.2.2.2.2, ())))), fun t => (t.1.2.1, (t.1.2.2.1, t.2.2.1)), fun t => (t.1.2.2.2.2.2.1, (t.2.1.1, (t.2.1.2.1, (t.2.1.2.2.1, t.2.2.2.1)))), wnh, fun k r => .l (.exit 2 (wal ({ slots := [0, 5, 6, 8], sh := (yj [.box 64 0, .dat yi, .dat .bool, .arr 25]), obs := [(64, .cells (yj [.dat (.slice (.int .u8)), .dat yi, .dat (.int .u64)])), (25, .rows 24 3 yi)] }) (((), (k.1, (k.2.1, ((), ())))), ((r.1, (r.2.1, (r.2.2.1, ()))), (r.2.2.2, ())))))⟩
noncomputable def wjh (k : Int × (Bool × (Int × (Int × (Int × (Y1 × (Int × Int))))))) (v : Int × Y2) : Tr ((Int × Y2) ⊕ Y2) :=
 .t (decide (v.1 < k.1))
 (.g (inR k.2.2.2.1 (length v.2)) <|
 .g (decide ((toNat k.2.2.2.1) < length v.2)) <|
 .g (inR k.2.2.2.1 (length v.2)) <|
 .g (decide ((toNat k.2.2.2.1) < length v.2)) <|
 .g (inR k.2.2.2.2.1 (length (getD v.2 (toNat k.2.2.2.1) ([] : Y1)))) <|
 .g (decide ((toNat k.2.2.2.2.1) < length (getD v.2 (toNat k.2.2.2.1) ([] : Y1)))) <|
 .g (inR k.2.2.2.1 (length v.2)) <|
 .g (decide ((toNat k.2.2.2.1) < length v.2)) <|
 .g (inR v.1 (length (getD v.2 (toNat k.2.2.2.1) ([] : Y1)))) <|
 .g (decide ((toNat v.1) < length (getD v.2 (toNat k.2.2.2.1) ([] : Y1)))) <|
 .g (inR v.1 (length v.2)) <|
 .g (decide ((toNat v.1) < length v.2)) <|
 .g (inR k.2.2.2.2.1 (length (getD v.2 (toNat v.1) ([] : Y1)))) <|
 .g (decide ((toNat k.2.2.2.2.1) < length (getD v.2 (toNat v.1) ([] : Y1)))) <|
 .c (Int) (wxj (getD (getD v.2 (toNat k.2.2.2.1) ([] : Y1)) (toNat k.2.2.2.2.1) (0 : Int)) (wrap .i64 ((getD (getD v.2 (toNat k.2.2.2.1) ([] : Y1)) (toNat v.1) (0 : Int)) + (getD (getD v.2 (toNat v.1) ([] : Y1)) (toNat k.2.2.2.2.1) (0 : Int))))) fun r91_ =>
 .g (inR k.2.2.2.2.1 (length (getD v.2 (toNat k.2.2.2.1) ([] : Y1)))) <|
 .g (decide ((toNat k.2.2.2.2.1) < length (getD v.2 (toNat k.2.2.2.1) ([] : Y1)))) <|
 .l (.inl ((wrap .i64 (v.1 + 1)), (set v.2 (toNat k.2.2.2.1) (set (getD v.2 (toNat k.2.2.2.1) ([] : Y1)) (toNat k.2.2.2.2.1) r91_)))))
 (.l (.inr v.2))
noncomputable def waat (k : Int × (Bool × (Int × (Int × (Int × (Y1 × (Int × Int))))))) (v : Int × Y2) : Option Y2 := iter (fun v => (wjh k v).ev) v
noncomputable def wuo : LD := ⟨{ acts := [], S := { slots := [0, 5, 6, 8, 13, 14, 15, 16], sh := (yj [.box 64 0, .dat yi, .dat .bool, .arr 25, .dat yi, .dat yi, .dat yi, .dat yi]), obs := [(64, .cells (yj [.dat (.slice (.int .u8)), .dat yi, .dat (.int .u64)])), (25, .rows 24 3 yi)] } }, [(12, { acts := [], S := { slots := [0, 5, 6, 8, 13, 14, 15], sh := (yj [.box 64 0, .dat yi, .dat .bool, .arr 25, .dat yi, .dat yi, .dat yi]), obs := [(64, .cells (yj [.dat (.slice (.int .u8)), .dat yi, .dat (.int .u64)])), (25, .rows 24 3 yi)] } })], (yh [] .nil), Int × (Bool × (Int × (Int × (Int × (Y1 × (Int × Int)))))), Int × Y2, List Y1, fun k v => (((), (k.1, (k.2.1, ((), (k.2.2.1, (k.2.2.2.1, (k.2.2.2.2.1, (v.1, ())))))))), ((k.2.2.2.2.2.1, (k.2.2.2.2.2.2.1, (k.2.2.2.2.2.2.2, ()))), (v.2, ()))), fun t => (t.1.2.1, (t.1.2.2.1, (t.1.2.2.2.2.1, (t.1.2.2.2.2.2.1, (t.1.2.2.2.2.2.2.1, (t.2.1.1, (t.2.1.2.1, t.2.1.2.2.1))))))), fun t => (t.1.2.2.2.2.2.2.2.1, t.2.2.1), wjh, fun k r => .l (.exit 12 (wal ({ slots := [0, 5, 6, 8, 13, 14, 15], sh := (yj [.box 64 0, .dat yi, .dat .bool, .arr 25, .dat yi, .dat yi, .dat yi]), obs := [(64, .cells (yj [.dat (.slice (.int .u8)), .dat yi, .dat (.int .u64)])), (25, .rows 24 3 yi)] }) (((), (k.1, (k.2.1, ((), (k.2.2.1, (k.2.2.2.1, (k.2.2.2.2.1, ()))))))), ((k.2.2.2.2.2.1, (k.2.2.2.2.2.2.1, (k.2.2.2.2.2.2.2, ()))), (r, ())))))⟩
noncomputable def wji (k : Int × (Bool × (Int × (Int × (Y1 × (Int × Int)))))) (v : Int × Y2) : Tr ((Int × Y2) ⊕ Y2) :=
 .t (decide (v.1 < k.1))
 (.c Y2 (waat (k.1, (k.2.1, (k.2.2.1, (k.2.2.2.1, (v.1, (k.2.2.2.2.1, (k.2.2.2.2.2.1, k.2.2.2.2.2.2))))))) ((0 : Int), v.2)) fun r101_ =>
 .l (.inl ((wrap .i64 (v.1 + 1)), r101_)))
 (.l (.inr v.2))
noncomputable def waau (k : Int × (Bool × (Int × (Int × (Y1 × (Int × Int)))))) (v : Int × Y2) : Option Y2 := iter (fun v => (wji k v).ev) v
noncomputable def wup : LD := ⟨{ acts := [], S := { slots := [0, 5, 6, 8, 13, 14, 15], sh := (yj [.box 64 0, .dat yi, .dat .bool, .arr 25, .dat yi, .dat yi, .dat yi]), obs := [(64, .cells (yj [.dat (.slice (.int .u8)), .dat yi, .dat (.int .u64)])), (25, .rows 24 3 yi)] } }, [(10, { acts := [], S := { slots := [0, 5, 6, 8, 13, 14], sh := (yj [.box 64 0, .dat yi, .dat .bool, .arr 25, .dat yi, .dat yi]), obs := [(64, .cells (yj [.dat (.slice (.int .u8)), .dat yi, .dat (.int .u64)])), (25, .rows 24 3 yi)] } })], (yh [] .nil), Int × (Bool × (Int × (Int × (Y1 × (Int × Int))))), Int × Y2, List Y1, fun k v => (((), (k.1, (k.2.1, ((), (k.2.2.1, (k.2.2.2.1, (v.1, ()))))))), ((k.2.2.2.2.1, (k.2.2.2.2.2.1, (k.2.2.2.2.2.2, ()))), (v.2, ()))), fun t => (t.1.2.1, (t.1.2.2.1, (t.1.2.2.2.2.1, (t.1.2.2.2.2.2.1, (t.2.1.1, (t.2.1.2.1, t.2.1.2.2.1)))))), fun t => (t.1.2.2.2.2.2.2.1, t.2.2.1), wji, fun k r => .l (.exit 10 (wal ({ slots := [0, 5, 6, 8, 13, 14], sh := (yj [.box 64 0, .dat yi, .dat .bool, .arr 25, .dat yi, .dat yi]), obs := [(64, .cells (yj [.dat (.slice (.int .u8)), .dat yi, .dat (.int .u64)])), (25, .rows 24 3 yi)] }) (((), (k.1, (k.2.1, ((), (k.2.2.1, (k.2.2.2.1, ())))))), ((k.2.2.2.2.1, (k.2.2.2.2.2.1, (k.2.2.2.2.2.2, ()))), (r, ())))))⟩
noncomputable def wni (k : Int × (Bool × (Int × (Y1 × (Int × Int))))) (v : Int × Y2) : Tr ((Int × Y2) ⊕ Y2) :=
 .t (decide (v.1 < k.1))
 (.c Y2 (waau (k.1, (k.2.1, (k.2.2.1, (v.1, (k.2.2.2.1, (k.2.2.2.2.1, k.2.2.2.2.2)))))) ((0 : Int), v.2)) fun r110_ =>
 .l (.inl ((wrap .i64 (v.1 + 1)), r110_)))
 (.l (.inr v.2))
noncomputable def wajq (k : Int × (Bool × (Int × (Y1 × (Int × Int))))) (v : Int × Y2) : Option Y2 := iter (fun v => (wni k v).ev) v
noncomputable def waav : LD := ⟨{ acts := [], S := { slots := [0, 5, 6, 8, 13, 14], sh := (yj [.box 64 0, .dat yi, .dat .bool, .arr 25, .dat yi, .dat yi]), obs := [(64, .cells (yj [.dat (.slice (.int .u8)), .dat yi, .dat (.int .u64)])), (25, .rows 24 3 yi)] } }, [(8, { acts := [], S := { slots := [0, 5, 6, 8, 13], sh := (yj [.box 64 0, .dat yi, .dat .bool, .arr 25, .dat yi]), obs := [(64, .cells (yj [.dat (.slice (.int .u8)), .dat yi, .dat (.int .u64)])), (25, .rows 24 3 yi)] } })], (yh [] .nil), Int × (Bool × (Int × (Y1 × (Int × Int)))), Int × Y2, List Y1, fun k v => (((), (k.1, (k.2.1, ((), (k.2.2.1, (v.1, ())))))), ((k.2.2.2.1, (k.2.2.2.2.1, (k.2.2.2.2.2, ()))), (v.2, ()))), fun t => (t.1.2.1, (t.1.2.2.1, (t.1.2.2.2.2.1, (t.2.1.1, (t.2.1.2.1, t.2.1.2.2.1))))), fun t => (t.1.2.2.2.2.2.1, t.2.2.1), wni, fun k r => .l (.exit 8 (wal ({ slots := [0, 5, 6, 8, 13], sh := (yj [.box 64 0, .dat yi, .dat .bool, .arr 25, .dat yi]), obs := [(64, .cells (yj [.dat (.slice (.int .u8)), .dat yi, .dat (.int .u64)])), (25, .rows 24 3 yi)] }) (((), (k.1, (k.2.1, ((), (k.2.2.1, ()))))), ((k.2.2.2.1, (k.2.2.2.2.1, (k.2.2.2.2.2, ()))), (r, ())))))⟩
noncomputable def whv (k : Int × (Bool)) (v : Int × (Y1 × (Int × (Int × Y2)))) : Tr ((Int × (Y1 × (Int × (Int × Y2)))) ⊕ (Y1 × (Int × (Int × Y2)))) :=
 .t (decide (v.1 < k.1))
 (.t (!k.2)
 (.c (Bool × (Y1 × (Int × Int))) (wafk (2 : Int) v.2.1 v.2.2.1 v.2.2.2.1) fun r63_ =>
 .t r63_.1
 (.c Y2 (wajq (k.1, (k.2, (v.1, (r63_.2.1, (r63_.2.2.1, r63_.2.2.2))))) ((0 : Int), v.2.2.2.2)) fun r118_ =>
 .l (.inl ((wrap .i64 (v.1 + 1)), (r63_.2.1, (r63_.2.2.1, (r63_.2.2.2, r118_))))))
 (.l (.inr (r63_.2.1, (r63_.2.2.1, (r63_.2.2.2, v.2.2.2.2))))))
 (.l (.inr (v.2.1, (v.2.2.1, (v.2.2.2.1, v.2.2.2.2))))))
 (.l (.inr (v.2.1, (v.2.2.1, (v.2.2.2.1, v.2.2.2.2)))))
noncomputable def wajr (k : Int × (Bool)) (v : Int × (Y1 × (Int × (Int × Y2)))) : Option (Y1 × (Int × (Int × Y2))) := iter (fun v => (whv k v).ev) v
noncomputable def waaw : LD := ⟨{ acts := [], S := { slots := [0, 5, 6, 8, 13], sh := (yj [.box 64 0, .dat yi, .dat .bool, .arr 25, .dat yi]), obs := [(64, .cells (yj [.dat (.slice (.int .u8)), .dat yi, .dat (.int .u64)])), (25, .rows 24 3 yi)] } }, [(6, { acts := [], S := { slots := [0, 5, 8], sh := (yj [.box 64 0, .dat yi, .arr 25]), obs := [(64, .cells (yj [.dat (.slice (.int .u8)), .dat yi, .dat (.int .u64)])), (25, .rows 24 3 yi)] } })], (yh [] .nil), Int × (Bool), Int × (Y1 × (Int × (Int × Y2))), Y1 × (Int × (Int × Y2)), fun k v => (((), (k.1, (k.2, ((), (v.1, ()))))), ((v.2.1, (v.2.2.1, (v.2.2.2.1, ()))), (v.2.2.2.2, ()))), fun t => (t.1.2.1, t.1.2.2.1), fun t => (t.1.2.2.2.2.1, (t.2.1.1, (t.2.1.2.1, (t.2.1.2.2.1, t.2.2.1)))), whv, fun k r => .l (.exit 6 (wal ({ slots := [0, 5, 8], sh := (yj [.box 64 0, .dat yi, .arr 25]), obs := [(64, .cells (yj [.dat (.slice (.int .u8)), .dat yi, .dat (.int .u64)])), (25, .rows 24 3 yi)] }) (((), (k.1, ((), ()))), ((r.1, (r.2.1, (r.2.2.1, ()))), (r.2.2.2, ())))))⟩
noncomputable def wbcf (a4_ : Int) (a1_ : Y1) (a2_ : Int) (a3_ : Int) : Tr (Y2 × (Y1 × (Int × Int))) :=
 .c (Int × (Y1 × (Int × Int))) (wun ([(4 : Int), (5 : Int), (3 : Int), (6 : Int), (7 : Int), (2 : Int), (1 : Int), (0 : Int)] : Y1) a1_ a2_ a3_) fun r1_ =>
 .c (Int) (wxj r1_.1 a4_) fun r2_ =>
 .c (Bool × (Y1 × (Int × Int))) (wafk (2 : Int) r1_.2.1 r1_.2.2.1 r1_.2.2.2) fun r3_ =>
 .c (Y1 × (Int × (Int × (Y1 × Y2)))) (wajn (r2_, r3_.1) ((0 : Int), (r3_.2.1, (r3_.2.2.1, (r3_.2.2.2, (([] : Y1), ([] : List Y1))))))) fun r20_ =>
 .c (Y1 × (Int × (Int × Y2))) (wajp (r2_, (r3_.1, r20_.2.2.2.1)) ((0 : Int), (r20_.1, (r20_.2.1, (r20_.2.2.1, r20_.2.2.2.2))))) fun r55_ =>
 .c (Y1 × (Int × (Int × Y2))) (wajr (r2_, r3_.1) ((0 : Int), (r55_.1, (r55_.2.1, (r55_.2.2.1, r55_.2.2.2))))) fun r124_ =>
 .t (decide (1 < r2_))
 (.c (Int × (Y1 × (Int × Int))) (wlg (40 : Int) r124_.1 r124_.2.1 r124_.2.2.1) fun r125_ =>
 .t (r125_.1 == 0)
 (.g (inR 0 (length r124_.2.2.2)) <|
 .g (decide ((toNat 0) < length r124_.2.2.2)) <|
 .c (Int × (Y1 × (Int × Int))) (wun ([(-1 : Int), (99 : Int), (100 : Int)] : Y1) r125_.2.1 r125_.2.2.1 r125_.2.2.2) fun r126_ =>
 .g (inR 1 (length (getD r124_.2.2.2 (toNat 0) ([] : Y1)))) <|
 .g (decide ((toNat 1) < length (getD r124_.2.2.2 (toNat 0) ([] : Y1)))) <|
 .l ((set r124_.2.2.2 (toNat 0) (set (getD r124_.2.2.2 (toNat 0) ([] : Y1)) (toNat 1) r126_.1)), (r126_.2.1, (r126_.2.2.1, r126_.2.2.2))))
 (.t (r125_.1 == 1)
 (.g (inR (wrap .i64 (r2_ - 1)) (length r124_.2.2.2)) <|
 .g (decide ((toNat (wrap .i64 (r2_ - 1))) < length r124_.2.2.2)) <|
 .g (decide ((length (getD r124_.2.2.2 (toNat (wrap .i64 (r2_ - 1))) ([] : Y1)) + length ([(0 : Int)] : Y1)) * 8 ≤ 140737488355328)) <|
 .g (inR (wrap .i64 (r2_ - 1)) (length r124_.2.2.2)) <|
 .g (decide ((toNat (wrap .i64 (r2_ - 1))) < length r124_.2.2.2) && decide ((toNat (wrap .i64 (r2_ - 1))) = (toNat (wrap .i64 (r2_ - 1))))) <|
 .l ((set r124_.2.2.2 (toNat (wrap .i64 (r2_ - 1))) ((getD r124_.2.2.2 (toNat (wrap .i64 (r2_ - 1))) ([] : Y1)) ++ ([(0 : Int)] : Y1))), (r125_.2.1, (r125_.2.2.1, r125_.2.2.2))))
 (.t (r125_.1 == 2)
 (.g (inR 1 (length r124_.2.2.2)) <|
 .g (decide ((toNat 1) < length r124_.2.2.2)) <|
 .g (inR 1 (length (getD r124_.2.2.2 (toNat 1) ([] : Y1)))) <|
 .g (decide ((toNat 1) < length (getD r124_.2.2.2 (toNat 1) ([] : Y1)))) <|
 .l ((set r124_.2.2.2 (toNat 1) (set (getD r124_.2.2.2 (toNat 1) ([] : Y1)) (toNat 1) (1 : Int))), (r125_.2.1, (r125_.2.2.1, r125_.2.2.2))))
 (.l (r124_.2.2.2, (r125_.2.1, (r125_.2.2.1, r125_.2.2.2)))))))
 (.l (r124_.2.2.2, (r124_.1, (r124_.2.1, r124_.2.2.1))))
noncomputable def wafl (a4_ : Int) (a1_ : Y1) (a2_ : Int) (a3_ : Int) : Option (Y2 × (Y1 × (Int × Int))) := (wbcf a4_ a1_ a2_ a3_).ev
noncomputable def wbvp : RetK := { acts := [.ren 25 0], res := [.tmp 4], sh := (yj [.arr 0]), obs := [(0, .rows 24 3 yi), (64, .cells (yj [.dat (.slice (.int .u8)), .dat yi, .dat (.int .u64)]))], pins := [(0, 0, 64)] }
noncomputable def wajs : FD := yd (yj [.box 64 0, .dat yi]) [(64, .cells (yj [.dat (.slice (.int .u8)), .dat yi, .dat (.int .u64)]))] [.arg 0] (Y2 × (Y1 × (Int × Int))) (fun x => wafl x.1.2.1 x.2.1.1 x.2.1.2.1 x.2.1.2.2.1) (fun r => ([.arr 0], [(0, .rows 24 3 yi r.1 none), (64, .cells [.dat (.slice (.int .u8)) r.2.1, .dat yi r.2.2.1, .dat (.int .u64) r.2.2.2])]))
noncomputable def wqv : Nat → Nat → List Nat := fun r i => match look [(1, [(2, [18])]), (2, [(1, [1000000])]), (35, [(0, [60000004])])] r with
 | some l => (look l i).getD []
 | none => []
noncomputable def wqw : Env := wab [(83, wafj), (194, wajm), (121, warz), (120, wxi), (197, wbce)]
noncomputable def wqx : List (Nat × LD) := [(0, waaq), (4, waar), (2, waas), (12, wuo), (10, wup), (8, waav), (6, waaw)]
noncomputable def whd : Code := (f103.body).getD .skip
noncomputable def wbcg (a1_ : Y1) : Tr (Int × Y2) :=
 .c (Y2 × (Y1 × (Int × Int))) (wafl (7 : Int) a1_ (0 : Int) (0 : Int)) fun r1_ =>
 .c (Int × (Y1 × (Int × Int))) (wun ([(2 : Int), (3 : Int), (2 : Int), (3 : Int), (4 : Int), (5 : Int), (7 : Int), (1 : Int), (8 : Int)] : Y1) r1_.2.1 r1_.2.2.1 r1_.2.2.2) fun r2_ =>
 .l (r2_.1, r1_.1)
noncomputable def wasb (a1_ : Y1) : Option (Int × Y2) := (wbcg a1_).ev
noncomputable def wbvq : RetK := { acts := [.ren 640 0], res := [.tmp 2, .tmp 3], sh := (yj [.arr 0, .dat yi]), obs := [(0, .rows 24 3 yi)], pins := [] }
noncomputable def wbch : FD := yd (yj [.dat (.slice (.int .u8))]) [] [] (Int × Y2) (fun x => wasb x.1.1) (fun r => ([.arr 0, .dat yi r.1], [(0, .rows 24 3 yi r.2 none)]))
noncomputable def wbvr : Nat → Nat → List Nat := fun r i => match look [(3, [(3, [13])])] r with
 | some l => (look l i).getD []
 | none => []
noncomputable def wnj (k : Y1 × (((HL [yi] → Option (Bool))) × Int)) (v : Int) : Tr ((Int) ⊕ ((Unit) ⊕ (Int))) :=
 .t (decide (v < k.2.2))
 (.g (inR v (length k.1)) <|
 .c (Bool) (k.2.1 ((getD k.1 (toNat v) 0), ())) fun r5_ =>
 .t r5_
 (.l (.inr (.inr v)))
 (.l (.inl (wrap .i64 (v + 1)))))
 (.l (.inr (.inl ())))
noncomputable def wajt (k : Y1 × (((HL [yi] → Option (Bool))) × Int)) (v : Int) : Option ((Unit) ⊕ (Int)) := iter (fun v => (wnj k v).ev) v
noncomputable def waax : LD := ⟨(yh [0, 1, 7, 8] (yj [.dat y1, .clo [yi] .bool, .dat yi, .dat yi])), [(0, (yh [] .nil))], (yh [4] (yj [.dat yi])), Y1 × (((HL [yi] → Option (Bool))) × Int), Int, (Unit) ⊕ (Int), fun k v => ((k.1, (k.2.1, (k.2.2, (v, ())))), ()), fun t => (t.1.1, (t.1.2.1, t.1.2.2.1)), fun t => t.1.2.2.2.1, wnj, fun _ r => .s (Unit) (Int) r (fun _ => .l (.exit 0 (wal ((ys [] .nil)) ((), ())))) (fun b => .l (.ret (wal ((ys [4] (yj [.dat yi]))) ((b, ()), ()))))⟩
noncomputable def wbci (a1_ : Y1) (a2_ : (HL [yi] → Option (Bool))) : Tr (Int) :=
 .c ((Unit) ⊕ (Int)) (wajt (a1_, (a2_, ((length a1_ : Nat) : Int))) (0 : Int)) fun r7_ =>
 .s (Unit) (Int) r7_
 (fun _ => .l (-1 : Int))
 (fun r9_ => .l r9_)
noncomputable def wasc (a1_ : Y1) (a2_ : (HL [yi] → Option (Bool))) : Option (Int) := (wbci a1_ a2_).ev
noncomputable def wbvs : RetK := yr [.tmp 4] (yj [.dat yi])
noncomputable def wbcj : FD := yd (yj [.dat y1, .clo [yi] .bool]) [] [] Int (fun x => wasc x.1.1 x.1.2.1) (fun r => ([.dat yi r], []))
noncomputable def wbck : Env := wab []
noncomputable def wbcl : List (Nat × LD) := [(0, waax)]
noncomputable def wasd : Code := (f206.body).getD .skip
noncomputable def wbcm (a1_ : Y1) (a2_ : (HL [yi] → Option (Bool))) : Tr (Bool) :=
 .c (Int) (wasc a1_ a2_) fun r1_ =>
 .l (decide (0 ≤ r1_))
noncomputable def wafm (a1_ : Y1) (a2_ : (HL [yi] → Option (Bool))) : Option (Bool) := (wbcm a1_ a2_).ev
noncomputable def wbvt : RetK := yr [.tmp 4] (yj [.dat .bool])
noncomputable def wuq : FD := yd (yj [.dat y1, .clo [yi] .bool]) [] [] Bool (fun x => wafm x.1.1 x.1.2.1) (fun r => ([.dat .bool r], []))
noncomputable def T_zt (a1_ : Int) (a2_ : Int) (a3_ : Int) : Tr (Bool) :=
 .t (decide (a2_ ≤ a1_))
 (.l (decide (a1_ ≤ a3_)))
 (.l false)
noncomputable def F_zt (a1_ : Int) (a2_ : Int) (a3_ : Int) : Option (Bool) := (T_zt a1_ a2_ a3_).ev
noncomputable def K_zt : RetK := yr [.tmp 6] (yj [.dat .bool])
noncomputable def D_zt : FD := yd (yj [.dat yi, .dat yi, .dat yi]) [] [] Bool (fun x => F_zt x.1.1 x.1.2.1 x.1.2.2.1) (fun r => ([.dat .bool r], []))
noncomputable def T_zq (a1_ : Int) (a2_ : Int) (a3_ : Int) : Tr (Bool) :=
 .c (Bool) (F_zt a1_ a2_ a3_) fun r1_ =>
 .l (!r1_)
noncomputable def F_zq (a1_ : Int) (a2_ : Int) (a3_ : Int) : Option (Bool) := (T_zq a1_ a2_ a3_).ev
noncomputable def K_zq : RetK := yr [.tmp 4] (yj [.dat .bool])
noncomputable def D_zq : FD := yd (yj [.dat yi, .ptr (yj [.dat yi]), .ptr (yj [.dat yi])]) [] [] Bool (fun x => F_zq x.1.1 x.1.2.1.1 x.1.2.2.1.1) (fun r => ([.dat .bool r], []))
noncomputable def T_zp (a1_ : Y1) (a2_ : Int) (a3_ : Int) : Tr (Bool) :=
 .c (Bool) (wafm a1_ (fun h1_ => Option.bind (F_zq h1_.1 a2_ a3_) fun y2_ => some y2_)) fun r3_ =>
 .l (!r3_)
noncomputable def F_zp (a1_ : Y1) (a2_ : Int) (a3_ : Int) : Option (Bool) := (T_zp a1_ a2_ a3_).ev
noncomputable def K_zp : RetK := yr [.tmp 6] (yj [.dat .bool])
noncomputable def D_zp : FD := yd (yj [.dat y1, .dat yi, .dat yi]) [] [] Bool (fun x => F_zp x.1.1 x.1.2.1 x.1.2.2.1) (fun r => ([.dat .bool r], []))
noncomputable def wur (k : Y2 × (Y2 × Int)) (v : Int) : Tr ((Int) ⊕ ((Unit) ⊕ (Unit))) :=
 .t (decide (v < k.2.2))
 (.g (inR v (length k.2.1)) <|
 .t (((length (getD k.2.1 (toNat v) ([] : Y1)) : Nat) : Int) != ((length k.1 : Nat) : Int))
 (.l (.inr (.inr ())))
 (.c (Bool) (F_zp (getD k.2.1 (toNat v) ([] : Y1)) (0 : Int) (99 : Int)) fun r5_ =>
 .t (!r5_)
 (.l (.inr (.inr ())))
 (.l (.inl (wrap .i64 (v + 1))))))
 (.l (.inr (.inl ())))
noncomputable def wayv (k : Y2 × (Y2 × Int)) (v : Int) : Option ((Unit) ⊕ (Unit)) := iter (fun v => (wur k v).ev) v
noncomputable def waju : LD := ⟨(yh [0, 12, 13, 14] (yj [.dat y2, .dat y2, .dat yi, .dat yi])), [(0, (yh [0] (yj [.dat y2])))], (yh [2] (yj [.dat .bool])), Y2 × (Y2 × Int), Int, (Unit) ⊕ (Unit), fun k v => ((k.1, (k.2.1, (k.2.2, (v, ())))), ()), fun t => (t.1.1, (t.1.2.1, t.1.2.2.1)), fun t => t.1.2.2.2.1, wur, fun k r => .s (Unit) (Unit) r (fun _ => .l (.exit 0 (wal ((ys [0] (yj [.dat y2]))) ((k.1, ()), ())))) (fun _ => .l (.ret (wal ((ys [2] (yj [.dat .bool]))) ((false, ()), ()))))⟩
noncomputable def wus (k : Y2 × (Int × (Y2 × (Int × (Int × (Y1 × Int)))))) (v : Int) : Tr ((Int) ⊕ ((Unit) ⊕ (Unit))) :=
 .t (decide (v < k.2.2.2.2.2.2))
 (.g (inR v (length k.2.2.2.2.2.1)) <|
 .g (inR v (length k.1)) <|
 .g (inR k.2.1 (length (getD k.1 (toNat v) ([] : Y1)))) <|
 .t ((getD k.2.2.2.2.2.1 (toNat v) 0) != (getD (getD k.1 (toNat v) ([] : Y1)) (toNat k.2.1) (0 : Int)))
 (.l (.inr (.inr ())))
 (.t (k.2.1 == v)
 (.t ((getD k.2.2.2.2.2.1 (toNat v) 0) != (0 : Int))
 (.l (.inr (.inr ())))
 (.l (.inl (wrap .i64 (v + 1)))))
 (.l (.inl (wrap .i64 (v + 1))))))
 (.l (.inr (.inl ())))
noncomputable def wayw (k : Y2 × (Int × (Y2 × (Int × (Int × (Y1 × Int)))))) (v : Int) : Option ((Unit) ⊕ (Unit)) := iter (fun v => (wus k v).ev) v
noncomputable def wajv : LD := ⟨(yh [0, 5, 29, 30, 31, 36, 37, 38] (yj [.dat y2, .dat yi, .dat y2, .dat yi, .dat yi, .dat y1, .dat yi, .dat yi])), [(4, (yh [0, 29, 30, 31] (yj [.dat y2, .dat y2, .dat yi, .dat yi])))], (yh [2] (yj [.dat .bool])), Y2 × (Int × (Y2 × (Int × (Int × (Y1 × Int))))), Int, (Unit) ⊕ (Unit), fun k v => ((k.1, (k.2.1, (k.2.2.1, (k.2.2.2.1, (k.2.2.2.2.1, (k.2.2.2.2.2.1, (k.2.2.2.2.2.2, (v, ())))))))), ()), fun t => (t.1.1, (t.1.2.1, (t.1.2.2.1, (t.1.2.2.2.1, (t.1.2.2.2.2.1, (t.1.2.2.2.2.2.1, t.1.2.2.2.2.2.2.1)))))), fun t => t.1.2.2.2.2.2.2.2.1, wus, fun k r => .s (Unit) (Unit) r (fun _ => .l (.exit 4 (wal ((ys [0, 29, 30, 31] (yj [.dat y2, .dat y2, .dat yi, .dat yi]))) ((k.1, (k.2.2.1, (k.2.2.2.1, (k.2.2.2.2.1, ())))), ())))) (fun _ => .l (.ret (wal ((ys [2] (yj [.dat .bool]))) ((false, ()), ()))))⟩
noncomputable def wut (k : Y2 × (Y2 × Int)) (v : Int) : Tr ((Int) ⊕ ((Unit) ⊕ (Unit))) :=
 .t (decide (v < k.2.2))
 (.g (inR v (length k.2.1)) <|
 .c ((Unit) ⊕ (Unit)) (wayw (k.1, (v, (k.2.1, (k.2.2, (v, ((getD k.2.1 (toNat v) ([] : Y1)), ((length (getD k.2.1 (toNat v) ([] : Y1)) : Nat) : Int))))))) (0 : Int)) fun r28_ =>
 .s (Unit) (Unit) r28_
 (fun _ => .l (.inl (wrap .i64 (v + 1))))
 (fun _ => .l (.inr (.inr ()))))
 (.l (.inr (.inl ())))
noncomputable def wayx (k : Y2 × (Y2 × Int)) (v : Int) : Option ((Unit) ⊕ (Unit)) := iter (fun v => (wut k v).ev) v
noncomputable def wajw : LD := ⟨(yh [0, 29, 30, 31] (yj [.dat y2, .dat y2, .dat yi, .dat yi])), [(2, (yh [] .nil))], (yh [2] (yj [.dat .bool])), Y2 × (Y2 × Int), Int, (Unit) ⊕ (Unit), fun k v => ((k.1, (k.2.1, (k.2.2, (v, ())))), ()), fun t => (t.1.1, (t.1.2.1, t.1.2.2.1)), fun t => t.1.2.2.2.1, wut, fun _ r => .s (Unit) (Unit) r (fun _ => .l (.exit 2 (wal ((ys [] .nil)) ((), ())))) (fun _ => .l (.ret (wal ((ys [2] (yj [.dat .bool]))) ((false, ()), ()))))⟩
noncomputable def T_zj (a1_ : List Y1) : Tr (Bool) :=
 .t (decide ((7 : Int) < ((length a1_ : Nat) : Int)))
 (.l false)
 (.c ((Unit) ⊕ (Unit)) (wayv (a1_, (a1_, ((length a1_ : Nat) : Int))) (0 : Int)) fun r8_ =>
 .s (Unit) (Unit) r8_
 (fun _ => .c ((Unit) ⊕ (Unit)) (wayx (a1_, (a1_, ((length a1_ : Nat) : Int))) (0 : Int)) fun r32_ =>
 .s (Unit) (Unit) r32_
 (fun _ => .l true)
 (fun _ => .l false))
 (fun _ => .l false))
noncomputable def F_zj (a1_ : List Y1) : Option (Bool) := (T_zj a1_).ev
noncomputable def K_zj : RetK := yr [.tmp 2] (yj [.dat .bool])
noncomputable def D_zj : FD := yd (yj [.dat y2]) [] [] Bool (fun x => F_zj x.1.1) (fun r => ([.dat .bool r], []))
noncomputable def E_zj : Env := wab [(116, D_zp)]
noncomputable def O_zj : List (Nat × LD) := [(0, waju), (4, wajv), (2, wajw)]
noncomputable def C_zj : Code := (f30.body).getD .skip
noncomputable def T_zr (a1_ : Int) (a2_ : Int) : Tr (Bool) :=
 .g (decide (0 ≤ a2_)) <|
 .l ((wrap .u64 (BitVec.toNat ((BitVec.ofInt (IntKind.bits .u64) (Int.fdiv a1_ (2 ^ (min (toNat a2_) (IntKind.bits .u64))))) &&& (BitVec.ofInt (IntKind.bits .u64) (1 : Int))))) == (1 : Int))
noncomputable def F_zr (a1_ : Int) (a2_ : Int) : Option (Bool) := (T_zr a1_ a2_).ev
noncomputable def K_zr : RetK := yr [.tmp 4] (yj [.dat .bool])
noncomputable def D_zr : FD := yd (yj [.dat (.int .u64), .dat yi]) [] [] Bool (fun x => F_zr x.1.1 x.1.2.1) (fun r => ([.dat .bool r], []))
noncomputable def waay (k : Int) (v : Int × Y1) : Tr ((Int × Y1) ⊕ Y1) :=
 .g (decide (0 ≤ v.1)) <|
 .t (decide ((0 : Int) < (Int.fdiv k (2 ^ (min (toNat v.1) (IntKind.bits .u64))))))
 (.c (Bool) (F_zr k v.1) fun r4_ =>
 .t r4_
 (.g (decide ((length v.2 + length ([v.1] : Y1)) * 8 ≤ 140737488355328)) <|
 .l (.inl ((wrap .i64 (v.1 + 1)), (v.2 ++ ([v.1] : Y1)))))
 (.l (.inl ((wrap .i64 (v.1 + 1)), v.2))))
 (.l (.inr v.2))
noncomputable def wajx (k : Int) (v : Int × Y1) : Option Y1 := iter (fun v => (waay k v).ev) v
noncomputable def wajy : LD := ⟨{ acts := [], S := { slots := [0, 3, 4], sh := (yj [.dat (.int .u64), .arr 5, .dat yi]), obs := [(5, .arr 3 yi)] } }, [(0, { acts := [], S := { slots := [3], sh := (yj [.arr 5]), obs := [(5, .arr 3 yi)] } })], (yh [] .nil), Int, Int × Y1, Y1, fun k v => ((k, ((), (v.1, ()))), (v.2, ())), fun t => t.1.1, fun t => (t.1.2.2.1, t.2.1), waay, fun _ r => .l (.exit 0 (wal ({ slots := [3], sh := (yj [.arr 5]), obs := [(5, .arr 3 yi)] }) (((), ()), (r, ()))))⟩
noncomputable def T_zs (a1_ : Int) : Tr Y1 :=
 .c Y1 (wajx a1_ ((0 : Int), ([] : Y1))) fun r6_ =>
 .l r6_
noncomputable def F_zs (a1_ : Int) : Option Y1 := (T_zs a1_).ev
noncomputable def K_zs : RetK := { acts := [.ren 5 0], res := [.tmp 2], sh := (yj [.arr 0]), obs := [(0, .arr 3 yi)], pins := [] }
noncomputable def D_zs : FD := yd (yj [.dat (.int .u64)]) [] [] Y1 (fun x => F_zs x.1.1) (fun r => ([.arr 0], [(0, .arr 3 yi r)]))
noncomputable def E_zs : Env := wab [(143, D_zr)]
noncomputable def O_zs : List (Nat × LD) := [(0, wajy)]
noncomputable def C_zs : Code := (f144.body).getD .skip
noncomputable def wasg (a1_ : Int) : Tr (Int) :=
 .t (decide (4294967296 ≤ a1_))
 (.g (decide ((0 : Int) ≤ (32 : Int))) <|
 .t (decide ((65536 : Int) ≤ (Int.fdiv a1_ (2 ^ (min (toNat 32) (IntKind.bits .u64))))))
 (.g (decide ((0 : Int) ≤ (16 : Int))) <|
 .t (decide ((256 : Int) ≤ (Int.fdiv (Int.fdiv a1_ (2 ^ (min (toNat 32) (IntKind.bits .u64)))) (2 ^ (min (toNat 16) (IntKind.bits .u64))))))
 (.g (decide ((0 : Int) ≤ (8 : Int))) <|
 .g (inR (wrap .u8 (Int.fdiv (Int.fdiv (Int.fdiv a1_ (2 ^ (min (toNat 32) (IntKind.bits .u64)))) (2 ^ (min (toNat 16) (IntKind.bits .u64)))) (2 ^ (min (toNat 8) (IntKind.bits .u64))))) (length ([0, 1, 2, 2, 3, 3, 3, 3, 4, 4, 4, 4, 4, 4, 4, 4, 5, 5, 5, 5, 5, 5, 5, 5, 5, 5, 5, 5, 5, 5, 5, 5, 6, 6, 6, 6, 6, 6, 6, 6, 6, 6, 6, 6, 6, 6, 6, 6, 6, 6, 6, 6, 6, 6, 6, 6, 6, 6, 6, 6, 6, 6, 6, 6, 7, 7, 7, 7, 7, 7, 7, 7, 7, 7, 7, 7, 7, 7, 7, 7, 7, 7, 7, 7, 7, 7, 7, 7, 7, 7, 7, 7, 7, 7, 7, 7, 7, 7, 7, 7, 7, 7, 7, 7, 7, 7, 7, 7, 7, 7, 7, 7, 7, 7, 7, 7, 7, 7, 7, 7, 7, 7, 7, 7, 7, 7, 7, 7, 8, 8, 8, 8, 8, 8, 8, 8, 8, 8, 8, 8, 8, 8, 8, 8, 8, 8, 8, 8, 8, 8, 8, 8, 8, 8, 8, 8, 8, 8, 8, 8, 8, 8, 8, 8, 8, 8, 8, 8, 8, 8, 8, 8, 8, 8, 8, 8, 8, 8, 8, 8, 8, 8, 8, 8, 8, 8, 8, 8, 8, 8, 8, 8, 8, 8, 8, 8, 8, 8, 8, 8, 8, 8, 8, 8, 8, 8, 8, 8, 8, 8, 8, 8, 8, 8, 8, 8, 8, 8, 8, 8, 8, 8, 8, 8, 8, 8, 8, 8, 8, 8, 8, 8, 8, 8, 8, 8, 8, 8, 8, 8, 8, 8, 8, 8, 8, 8, 8, 8, 8, 8, 8, 8, 8, 8, 8, 8] : List UInt8))) <|
 .l (wrap .i64 ((wrap .i64 ((wrap .i64 ((32 : Int) + 16)) + 8)) + (wrap .i64 ((UInt8.toNat (getD ([0, 1, 2, 2, 3, 3, 3, 3, 4, 4, 4, 4, 4, 4, 4, 4, 5, 5, 5, 5, 5, 5, 5, 5, 5, 5, 5, 5, 5, 5, 5, 5, 6, 6, 6, 6, 6, 6, 6, 6, 6, 6, 6, 6, 6, 6, 6, 6, 6, 6, 6, 6, 6, 6, 6, 6, 6, 6, 6, 6, 6, 6, 6, 6, 7, 7, 7, 7, 7, 7, 7, 7, 7, 7, 7, 7, 7, 7, 7, 7, 7, 7, 7, 7, 7, 7, 7, 7, 7, 7, 7, 7, 7, 7, 7, 7, 7, 7, 7, 7, 7, 7, 7, 7, 7, 7, 7, 7, 7, 7, 7, 7, 7, 7, 7, 7, 7, 7, 7, 7, 7, 7, 7, 7, 7, 7, 7, 7, 8, 8, 8, 8, 8, 8, 8, 8, 8, 8, 8, 8, 8, 8, 8, 8, 8, 8, 8, 8, 8, 8, 8, 8, 8, 8, 8, 8, 8, 8, 8, 8, 8, 8, 8, 8, 8, 8, 8, 8, 8, 8, 8, 8, 8, 8, 8, 8, 8, 8, 8, 8, 8, 8, 8, 8, 8, 8, 8, 8, 8, 8, 8, 8, 8, 8, 8, 8, 8, 8, 8, 8, 8, 8, 8, 8, 8, 8, 8, 8, 8, 8, 8, 8, 8, 8, 8, 8, 8, 8, 8, 8, 8, 8, 8, 8, 8, 8, 8, 8, 8, 8, 8, 8, 8, 8, 8, 8, 8, 8, 8, 8, 8, 8, 8, 8, 8, 8, 8, 8, 8, 8, 8, 8, 8, 8, 8, 8] : List UInt8) (toNat (wrap .u8 (Int.fdiv (Int.fdiv (Int.fdiv a1_ (2 ^ (min (toNat 32) (IntKind.bits .u64)))) (2 ^ (min (toNat 16) (IntKind.bits .u64)))) (2 ^ (min (toNat 8) (IntKind.bits .u64)))))) 0) : Nat) : Int)))))
 (.g (inR (wrap .u8 (Int.fdiv (Int.fdiv a1_ (2 ^ (min (toNat 32) (IntKind.bits .u64)))) (2 ^ (min (toNat 16) (IntKind.bits .u64))))) (length ([0, 1, 2, 2, 3, 3, 3, 3, 4, 4, 4, 4, 4, 4, 4, 4, 5, 5, 5, 5, 5, 5, 5, 5, 5, 5, 5, 5, 5, 5, 5, 5, 6, 6, 6, 6, 6, 6, 6, 6, 6, 6, 6, 6, 6, 6, 6, 6, 6, 6, 6, 6, 6, 6, 6, 6, 6, 6, 6, 6, 6, 6, 6, 6, 7, 7, 7, 7, 7, 7, 7, 7, 7, 7, 7, 7, 7, 7, 7, 7, 7, 7, 7, 7, 7, 7, 7, 7, 7, 7, 7, 7, 7, 7, 7, 7, 7, 7, 7, 7, 7, 7, 7, 7, 7, 7, 7, 7, 7, 7, 7, 7, 7, 7, 7, 7, 7, 7, 7, 7, 7, 7, 7, 7, 7, 7, 7, 7, 8, 8, 8, 8, 8, 8, 8, 8, 8, 8, 8, 8, 8, 8, 8, 8, 8, 8, 8, 8, 8, 8, 8, 8, 8, 8, 8, 8, 8, 8, 8, 8, 8, 8, 8, 8, 8, 8, 8, 8, 8, 8, 8, 8, 8, 8, 8, 8, 8, 8, 8, 8, 8, 8, 8, 8, 8, 8, 8, 8, 8, 8, 8, 8, 8, 8, 8, 8, 8, 8, 8, 8, 8, 8, 8, 8, 8, 8, 8, 8, 8, 8, 8, 8, 8, 8, 8, 8, 8, 8, 8, 8, 8, 8, 8, 8, 8, 8, 8, 8, 8, 8, 8, 8, 8, 8, 8, 8, 8, 8, 8, 8, 8, 8, 8, 8, 8, 8, 8, 8, 8, 8, 8, 8, 8, 8, 8, 8] : List UInt8))) <|
 .l (wrap .i64 ((wrap .i64 ((32 : Int) + 16)) + (wrap .i64 ((UInt8.toNat (getD ([0, 1, 2, 2, 3, 3, 3, 3, 4, 4, 4, 4, 4, 4, 4, 4, 5, 5, 5, 5, 5, 5, 5, 5, 5, 5, 5, 5, 5, 5, 5, 5, 6, 6, 6, 6, 6, 6, 6, 6, 6, 6, 6, 6, 6, 6, 6, 6, 6, 6, 6, 6, 6, 6, 6, 6, 6, 6, 6, 6, 6, 6, 6, 6, 7, 7, 7, 7, 7, 7, 7, 7, 7, 7, 7, 7, 7, 7, 7, 7, 7, 7, 7, 7, 7, 7, 7, 7, 7, 7, 7, 7, 7, 7, 7, 7, 7, 7, 7, 7, 7, 7, 7, 7, 7, 7, 7, 7, 7, 7, 7, 7, 7, 7, 7, 7, 7, 7, 7, 7, 7, 7, 7, 7, 7, 7, 7, 7, 8, 8, 8, 8, 8, 8, 8, 8, 8, 8, 8, 8, 8, 8, 8, 8, 8, 8, 8, 8, 8, 8, 8, 8, 8, 8, 8, 8, 8, 8, 8, 8, 8, 8, 8, 8, 8, 8, 8, 8, 8, 8, 8, 8, 8, 8, 8, 8, 8, 8, 8, 8, 8, 8, 8, 8, 8, 8, 8, 8, 8, 8, 8, 8, 8, 8, 8, 8, 8, 8, 8, 8, 8, 8, 8, 8, 8, 8, 8, 8, 8, 8, 8, 8, 8, 8, 8, 8, 8, 8, 8, 8, 8, 8, 8, 8, 8, 8, 8, 8, 8, 8, 8, 8, 8, 8, 8, 8, 8, 8, 8, 8, 8, 8, 8, 8, 8, 8, 8, 8, 8, 8, 8, 8, 8, 8, 8, 8] : List UInt8) (toNat (wrap .u8 (Int.fdiv (Int.fdiv a1_ (2 ^ (min (toNat 32) (IntKind.bits .u64)))) (2 ^ (min (toNat 16) (IntKind.bits .u64)))))) 0) : Nat) : Int))))))
 (.t (decide ((256 : Int) ≤ (Int.fdiv a1_ (2 ^ (min (toNat 32) (IntKind.bits .u64))))))
 (.g (decide ((0 : Int) ≤ (8 : Int))) <|
 .g (inR (wrap .u8 (Int.fdiv (Int.fdiv a1_ (2 ^ (min (toNat 32) (IntKind.bits .u64)))) (2 ^ (min (toNat 8) (IntKind.bits .u64))))) (length ([0, 1, 2, 2, 3, 3, 3, 3, 4, 4, 4, 4, 4, 4, 4, 4, 5, 5, 5, 5, 5, 5, 5, 5, 5, 5, 5, 5, 5, 5, 5, 5, 6, 6, 6, 6, 6, 6, 6, 6, 6, 6, 6, 6, 6, 6, 6, 6, 6, 6, 6, 6, 6, 6, 6, 6, 6, 6, 6, 6, 6, 6, 6, 6, 7, 7, 7, 7, 7, 7, 7, 7, 7, 7, 7, 7, 7, 7, 7, 7, 7, 7, 7, 7, 7, 7, 7, 7, 7, 7, 7, 7, 7, 7, 7, 7, 7, 7, 7, 7, 7, 7, 7, 7, 7, 7, 7, 7, 7, 7, 7, 7, 7, 7, 7, 7, 7, 7, 7, 7, 7, 7, 7, 7, 7, 7, 7, 7, 8, 8, 8, 8, 8, 8, 8, 8, 8, 8, 8, 8, 8, 8, 8, 8, 8, 8, 8, 8, 8, 8, 8, 8, 8, 8, 8, 8, 8, 8, 8, 8, 8, 8, 8, 8, 8, 8, 8, 8, 8, 8, 8, 8, 8, 8, 8, 8, 8, 8, 8, 8, 8, 8, 8, 8, 8, 8, 8, 8, 8, 8, 8, 8, 8, 8, 8, 8, 8, 8, 8, 8, 8, 8, 8, 8, 8, 8, 8, 8, 8, 8, 8, 8, 8, 8, 8, 8, 8, 8, 8, 8, 8, 8, 8, 8, 8, 8, 8, 8, 8, 8, 8, 8, 8, 8, 8, 8, 8, 8, 8, 8, 8, 8, 8, 8, 8, 8, 8, 8, 8, 8, 8, 8, 8, 8, 8, 8] : List UInt8))) <|
 .l (wrap .i64 ((wrap .i64 ((32 : Int) + 8)) + (wrap .i64 ((UInt8.toNat (getD ([0, 1, 2, 2, 3, 3, 3, 3, 4, 4, 4, 4, 4, 4, 4, 4, 5, 5, 5, 5, 5, 5, 5, 5, 5, 5, 5, 5, 5, 5, 5, 5, 6, 6, 6, 6, 6, 6, 6, 6, 6, 6, 6, 6, 6, 6, 6, 6, 6, 6, 6, 6, 6, 6, 6, 6, 6, 6, 6, 6, 6, 6, 6, 6, 7, 7, 7, 7, 7, 7, 7, 7, 7, 7, 7, 7, 7, 7, 7, 7, 7, 7, 7, 7, 7, 7, 7, 7, 7, 7, 7, 7, 7, 7, 7, 7, 7, 7, 7, 7, 7, 7, 7, 7, 7, 7, 7, 7, 7, 7, 7, 7, 7, 7, 7, 7, 7, 7, 7, 7, 7, 7, 7, 7, 7, 7, 7, 7, 8, 8, 8, 8, 8, 8, 8, 8, 8, 8, 8, 8, 8, 8, 8, 8, 8, 8, 8, 8, 8, 8, 8, 8, 8, 8, 8, 8, 8, 8, 8, 8, 8, 8, 8, 8, 8, 8, 8, 8, 8, 8, 8, 8, 8, 8, 8, 8, 8, 8, 8, 8, 8, 8, 8, 8, 8, 8, 8, 8, 8, 8, 8, 8, 8, 8, 8, 8, 8, 8, 8, 8, 8, 8, 8, 8, 8, 8, 8, 8, 8, 8, 8, 8, 8, 8, 8, 8, 8, 8, 8, 8, 8, 8, 8, 8, 8, 8, 8, 8, 8, 8, 8, 8, 8, 8, 8, 8, 8, 8, 8, 8, 8, 8, 8, 8, 8, 8, 8, 8, 8, 8, 8, 8, 8, 8, 8, 8] : List UInt8) (toNat (wrap .u8 (Int.fdiv (Int.fdiv a1_ (2 ^ (min (toNat 32) (IntKind.bits .u64)))) (2 ^ (min (toNat 8) (IntKind.bits .u64)))))) 0) : Nat) : Int)))))
 (.g (inR (wrap .u8 (Int.fdiv a1_ (2 ^ (min (toNat 32) (IntKind.bits .u64))))) (length ([0, 1, 2, 2, 3, 3, 3, 3, 4, 4, 4, 4, 4, 4, 4, 4, 5, 5, 5, 5, 5, 5, 5, 5, 5, 5, 5, 5, 5, 5, 5, 5, 6, 6, 6, 6, 6, 6, 6, 6, 6, 6, 6, 6, 6, 6, 6, 6, 6, 6, 6, 6, 6, 6, 6, 6, 6, 6, 6, 6, 6, 6, 6, 6, 7, 7, 7, 7, 7, 7, 7, 7, 7, 7, 7, 7, 7, 7, 7, 7, 7, 7, 7, 7, 7, 7, 7, 7, 7, 7, 7, 7, 7, 7, 7, 7, 7, 7, 7, 7, 7, 7, 7, 7, 7, 7, 7, 7, 7, 7, 7, 7, 7, 7, 7, 7, 7, 7, 7, 7, 7, 7, 7, 7, 7, 7, 7, 7, 8, 8, 8, 8, 8, 8, 8, 8, 8, 8, 8, 8, 8, 8, 8, 8, 8, 8, 8, 8, 8, 8, 8, 8, 8, 8, 8, 8, 8, 8, 8, 8, 8, 8, 8, 8, 8, 8, 8, 8, 8, 8, 8, 8, 8, 8, 8, 8, 8, 8, 8, 8, 8, 8, 8, 8, 8, 8, 8, 8, 8, 8, 8, 8, 8, 8, 8, 8, 8, 8, 8, 8, 8, 8, 8, 8, 8, 8, 8, 8, 8, 8, 8, 8, 8, 8, 8, 8, 8, 8, 8, 8, 8, 8, 8, 8, 8, 8, 8, 8, 8, 8, 8, 8, 8, 8, 8, 8, 8, 8, 8, 8, 8, 8, 8, 8, 8, 8, 8, 8, 8, 8, 8, 8, 8, 8, 8, 8] : List UInt8))) <|
 .l (wrap .i64 ((32 : Int) + (wrap .i64 ((UInt8.toNat (getD ([0, 1, 2, 2, 3, 3, 3, 3, 4, 4, 4, 4, 4, 4, 4, 4, 5, 5, 5, 5, 5, 5, 5, 5, 5, 5, 5, 5, 5, 5, 5, 5, 6, 6, 6, 6, 6, 6, 6, 6, 6, 6, 6, 6, 6, 6, 6, 6, 6, 6, 6, 6, 6, 6, 6, 6, 6, 6, 6, 6, 6, 6, 6, 6, 7, 7, 7, 7, 7, 7, 7, 7, 7, 7, 7, 7, 7, 7, 7, 7, 7, 7, 7, 7, 7, 7, 7, 7, 7, 7, 7, 7, 7, 7, 7, 7, 7, 7, 7, 7, 7, 7, 7, 7, 7, 7, 7, 7, 7, 7, 7, 7, 7, 7, 7, 7, 7, 7, 7, 7, 7, 7, 7, 7, 7, 7, 7, 7, 8, 8, 8, 8, 8, 8, 8, 8, 8, 8, 8, 8, 8, 8, 8, 8, 8, 8, 8, 8, 8, 8, 8, 8, 8, 8, 8, 8, 8, 8, 8, 8, 8, 8, 8, 8, 8, 8, 8, 8, 8, 8, 8, 8, 8, 8, 8, 8, 8, 8, 8, 8, 8, 8, 8, 8, 8, 8, 8, 8, 8, 8, 8, 8, 8, 8, 8, 8, 8, 8, 8, 8, 8, 8, 8, 8, 8, 8, 8, 8, 8, 8, 8, 8, 8, 8, 8, 8, 8, 8, 8, 8, 8, 8, 8, 8, 8, 8, 8, 8, 8, 8, 8, 8, 8, 8, 8, 8, 8, 8, 8, 8, 8, 8, 8, 8, 8, 8, 8, 8, 8, 8, 8, 8, 8, 8, 8, 8] : List UInt8) (toNat (wrap .u8 (Int.fdiv a1_ (2 ^ (min (toNat 32) (IntKind.bits .u64)))))) 0) : Nat) : Int)))))))
 (.t (decide (65536 ≤ a1_))
 (.g (decide ((0 : Int) ≤ (16 : Int))) <|
 .t (decide ((256 : Int) ≤ (Int.fdiv a1_ (2 ^ (min (toNat 16) (IntKind.bits .u64))))))
 (.g (decide ((0 : Int) ≤ (8 : Int))) <|
 .g (inR (wrap .u8 (Int.fdiv (Int.fdiv a1_ (2 ^ (min (toNat 16) (IntKind.bits .u64)))) (2 ^ (min (toNat 8) (IntKind.bits .u64))))) (length ([0, 1, 2, 2, 3, 3, 3, 3, 4, 4, 4, 4, 4, 4, 4, 4, 5, 5, 5, 5, 5, 5, 5, 5, 5, 5, 5, 5, 5, 5, 5, 5, 6, 6, 6, 6, 6, 6, 6, 6, 6, 6, 6, 6, 6, 6, 6, 6, 6, 6, 6, 6, 6, 6, 6, 6, 6, 6, 6, 6, 6, 6, 6, 6, 7, 7, 7, 7, 7, 7, 7, 7, 7, 7, 7, 7, 7, 7, 7, 7, 7, 7, 7, 7, 7, 7, 7, 7, 7, 7, 7, 7, 7, 7, 7, 7, 7, 7, 7, 7, 7, 7, 7, 7, 7, 7, 7, 7, 7, 7, 7, 7, 7, 7, 7, 7, 7, 7, 7, 7, 7, 7, 7, 7, 7, 7, 7, 7, 8, 8, 8, 8, 8, 8, 8, 8, 8, 8, 8, 8, 8, 8, 8, 8, 8, 8, 8, 8, 8, 8, 8, 8, 8, 8, 8, 8, 8, 8, 8, 8, 8, 8, 8, 8, 8, 8, 8, 8, 8, 8, 8, 8, 8, 8, 8, 8, 8, 8, 8, 8, 8, 8, 8, 8, 8, 8, 8, 8, 8, 8, 8, 8, 8, 8, 8, 8, 8, 8, 8, 8, 8, 8, 8, 8, 8, 8, 8, 8, 8, 8, 8, 8, 8, 8, 8, 8, 8, 8, 8, 8, 8, 8, 8, 8, 8, 8, 8, 8, 8, 8, 8, 8, 8, 8, 8, 8, 8, 8, 8, 8, 8, 8, 8, 8, 8, 8, 8, 8, 8, 8, 8, 8, 8, 8, 8, 8] : List UInt8))) <|
 .l (wrap .i64 ((wrap .i64 ((wrap .i64 ((0 : Int) + 16)) + 8)) + (wrap .i64 ((UInt8.toNat (getD ([0, 1, 2, 2, 3, 3, 3, 3, 4, 4, 4, 4, 4, 4, 4, 4, 5, 5, 5, 5, 5, 5, 5, 5, 5, 5, 5, 5, 5, 5, 5, 5, 6, 6, 6, 6, 6, 6, 6, 6, 6, 6, 6, 6, 6, 6, 6, 6, 6, 6, 6, 6, 6, 6, 6, 6, 6, 6, 6, 6, 6, 6, 6, 6, 7, 7, 7, 7, 7, 7, 7, 7, 7, 7, 7, 7, 7, 7, 7, 7, 7, 7, 7, 7, 7, 7, 7, 7, 7, 7, 7, 7, 7, 7, 7, 7, 7, 7, 7, 7, 7, 7, 7, 7, 7, 7, 7, 7, 7, 7, 7, 7, 7, 7, 7, 7, 7, 7, 7, 7, 7, 7, 7, 7, 7, 7, 7, 7, 8, 8, 8, 8, 8, 8, 8, 8, 8, 8, 8, 8, 8, 8, 8, 8, 8, 8, 8, 8, 8, 8, 8, 8, 8, 8, 8, 8, 8, 8, 8, 8, 8, 8, 8, 8, 8, 8, 8, 8, 8, 8, 8, 8, 8, 8, 8, 8, 8, 8, 8, 8, 8, 8, 8, 8, 8, 8, 8, 8, 8, 8, 8, 8, 8, 8, 8, 8, 8, 8, 8, 8, 8, 8, 8, 8, 8, 8, 8, 8, 8, 8, 8, 8, 8, 8, 8, 8, 8, 8, 8, 8, 8, 8, 8, 8, 8, 8, 8, 8, 8, 8, 8, 8, 8, 8, 8, 8, 8, 8, 8, 8, 8, 8, 8, 8, 8, 8, 8, 8, 8, 8, 8, 8, 8, 8, 8, 8] : List UInt8) (toNat (wrap .u8 (Int.fdiv (Int.fdiv a1_ (2 ^ (min (toNat 16) (IntKind.bits .u64)))) (2 ^ (min (toNat 8) (IntKind.bits .u64)))))) 0) : Nat) : Int)))))
 (.g (inR (wrap .u8 (Int.fdiv a1_ (2 ^ (min (toNat 16) (IntKind.bits .u64))))) (length ([0, 1, 2, 2, 3, 3, 3, 3, 4, 4, 4, 4, 4, 4, 4, 4, 5, 5, 5, 5, 5, 5, 5, 5, 5, 5, 5, 5, 5, 5, 5, 5, 6, 6, 6, 6, 6, 6, 6, 6, 6, 6, 6, 6, 6, 6, 6, 6, 6, 6, 6, 6, 6, 6, 6, 6, 6, 6, 6, 6, 6, 6, 6, 6, 7, 7, 7, 7, 7, 7, 7, 7, 7, 7, 7, 7, 7, 7, 7, 7, 7, 7, 7, 7, 7, 7, 7, 7, 7, 7, 7, 7, 7, 7, 7, 7, 7, 7, 7, 7, 7, 7, 7, 7, 7, 7, 7, 7, 7, 7, 7, 7, 7, 7, 7, 7, 7, 7, 7, 7, 7, 7, 7, 7, 7, 7, 7, 7, 8, 8, 8, 8, 8, 8, 8, 8, 8, 8, 8, 8, 8, 8, 8, 8, 8, 8, 8, 8, 8, 8, 8, 8, 8, 8, 8, 8, 8, 8, 8, 8, 8, 8, 8, 8, 8, 8, 8, 8, 8, 8, 8, 8, 8, 8, 8, 8, 8, 8, 8, 8, 8, 8, 8, 8, 8, 8, 8, 8, 8, 8, 8, 8, 8, 8, 8, 8, 8, 8, 8, 8, 8, 8, 8, 8, 8, 8, 8, 8, 8, 8, 8, 8, 8, 8, 8, 8, 8, 8, 8, 8, 8, 8, 8, 8, 8, 8, 8, 8, 8, 8, 8, 8, 8, 8, 8, 8, 8, 8, 8, 8, 8, 8, 8, 8, 8, 8, 8, 8, 8, 8, 8, 8, 8, 8, 8, 8] : List UInt8))) <|
 .l (wrap .i64 ((wrap .i64 ((0 : Int) + 16)) + (wrap .i64 ((UInt8.toNat (getD ([0, 1, 2, 2, 3, 3, 3, 3, 4, 4, 4, 4, 4, 4, 4, 4, 5, 5, 5, 5, 5, 5, 5, 5, 5, 5, 5, 5, 5, 5, 5, 5, 6, 6, 6, 6, 6, 6, 6, 6, 6, 6, 6, 6, 6, 6, 6, 6, 6, 6, 6, 6, 6, 6, 6, 6, 6, 6, 6, 6, 6, 6, 6, 6, 7, 7, 7, 7, 7, 7, 7, 7, 7, 7, 7, 7, 7, 7, 7, 7, 7, 7, 7, 7, 7, 7, 7, 7, 7, 7, 7, 7, 7, 7, 7, 7, 7, 7, 7, 7, 7, 7, 7, 7, 7, 7, 7, 7, 7, 7, 7, 7, 7, 7, 7, 7, 7, 7, 7, 7, 7, 7, 7, 7, 7, 7, 7, 7, 8, 8, 8, 8, 8, 8, 8, 8, 8, 8, 8, 8, 8, 8, 8, 8, 8, 8, 8, 8, 8, 8, 8, 8, 8, 8, 8, 8, 8, 8, 8, 8, 8, 8, 8, 8, 8, 8, 8, 8, 8, 8, 8, 8, 8, 8, 8, 8, 8, 8, 8, 8, 8, 8, 8, 8, 8, 8, 8, 8, 8, 8, 8, 8, 8, 8, 8, 8, 8, 8, 8, 8, 8, 8, 8, 8, 8, 8, 8, 8, 8, 8, 8, 8, 8, 8, 8, 8, 8, 8, 8, 8, 8, 8, 8, 8, 8, 8, 8, 8, 8, 8, 8, 8, 8, 8, 8, 8, 8, 8, 8, 8, 8, 8, 8, 8, 8, 8, 8, 8, 8, 8, 8, 8, 8, 8, 8, 8] : List UInt8) (toNat (wrap .u8 (Int.fdiv a1_ (2 ^ (min (toNat 16) (IntKind.bits .u64)))))) 0) : Nat) : Int))))))
 (.t (decide (256 ≤ a1_))
 (.g (decide ((0 : Int) ≤ (8 : Int))) <|
 .g (inR (wrap .u8 (Int.fdiv a1_ (2 ^ (min (toNat 8) (IntKind.bits .u64))))) (length ([0, 1, 2, 2, 3, 3, 3, 3, 4, 4, 4, 4, 4, 4, 4, 4, 5, 5, 5, 5, 5, 5, 5, 5, 5, 5, 5, 5, 5, 5, 5, 5, 6, 6, 6, 6, 6, 6, 6, 6, 6, 6, 6, 6, 6, 6, 6, 6, 6, 6, 6, 6, 6, 6, 6, 6, 6, 6, 6, 6, 6, 6, 6, 6, 7, 7, 7, 7, 7, 7, 7, 7, 7, 7, 7, 7, 7, 7, 7, 7, 7, 7, 7, 7, 7, 7, 7, 7, 7, 7, 7, 7, 7, 7, 7, 7, 7, 7, 7, 7, 7, 7, 7, 7, 7, 7, 7, 7, 7, 7, 7, 7, 7, 7, 7, 7, 7, 7, 7, 7, 7, 7, 7, 7, 7, 7, 7, 7, 8, 8, 8, 8, 8, 8, 8, 8, 8, 8, 8, 8, 8, 8, 8, 8, 8, 8, 8, 8, 8, 8, 8, 8, 8, 8, 8, 8, 8, 8, 8, 8, 8, 8, 8, 8, 8, 8, 8, 8, 8, 8, 8, 8, 8, 8, 8, 8, 8, 8, 8, 8, 8, 8, 8, 8, 8, 8, 8, 8, 8, 8, 8, 8, 8, 8, 8, 8, 8, 8, 8, 8, 8, 8, 8, 8, 8, 8, 8, 8, 8, 8, 8, 8, 8, 8, 8, 8, 8, 8, 8, 8, 8, 8, 8, 8, 8, 8, 8, 8, 8, 8, 8, 8, 8, 8, 8, 8, 8, 8, 8, 8, 8, 8, 8, 8, 8, 8, 8, 8, 8, 8, 8, 8, 8, 8, 8, 8] : List UInt8))) <|
 .l (wrap .i64 ((wrap .i64 ((0 : Int) + 8)) + (wrap .i64 ((UInt8.toNat (getD ([0, 1, 2, 2, 3, 3, 3, 3, 4, 4, 4, 4, 4, 4, 4, 4, 5, 5, 5, 5, 5, 5, 5, 5, 5, 5, 5, 5, 5, 5, 5, 5, 6, 6, 6, 6, 6, 6, 6, 6, 6, 6, 6, 6, 6, 6, 6, 6, 6, 6, 6, 6, 6, 6, 6, 6, 6, 6, 6, 6, 6, 6, 6, 6, 7, 7, 7, 7, 7, 7, 7, 7, 7, 7, 7, 7, 7, 7, 7, 7, 7, 7, 7, 7, 7, 7, 7, 7, 7, 7, 7, 7, 7, 7, 7, 7, 7, 7, 7, 7, 7, 7, 7, 7, 7, 7, 7, 7, 7, 7, 7, 7, 7, 7, 7, 7, 7, 7, 7, 7, 7, 7, 7, 7, 7, 7, 7, 7, 8, 8, 8, 8, 8, 8, 8, 8, 8, 8, 8, 8, 8, 8, 8, 8, 8, 8, 8, 8, 8, 8, 8, 8, 8, 8, 8, 8, 8, 8, 8, 8, 8, 8, 8, 8, 8, 8, 8, 8, 8, 8, 8, 8, 8, 8, 8, 8, 8, 8, 8, 8, 8, 8, 8, 8, 8, 8, 8, 8, 8, 8, 8, 8, 8, 8, 8, 8, 8, 8, 8, 8, 8, 8, 8, 8, 8, 8, 8, 8, 8, 8, 8, 8, 8, 8, 8, 8, 8, 8, 8, 8, 8, 8, 8, 8, 8, 8, 8, 8, 8, 8, 8, 8, 8, 8, 8, 8, 8, 8, 8, 8, 8, 8, 8, 8, 8, 8, 8, 8, 8, 8, 8, 8, 8, 8, 8, 8] : List UInt8) (toNat (wrap .u8 (Int.fdiv a1_ (2 ^ (min (toNat 8) (IntKind.bits .u64)))))) 0) : Nat) : Int)))))
 (.g (inR (wrap .u8 a1_) (length ([0, 1, 2, 2, 3, 3, 3, 3, 4, 4, 4, 4, 4, 4, 4, 4, 5, 5, 5, 5, 5, 5, 5, 5, 5, 5, 5, 5, 5, 5, 5, 5, 6, 6, 6, 6, 6, 6, 6, 6, 6, 6, 6, 6, 6, 6, 6, 6, 6, 6, 6, 6, 6, 6, 6, 6, 6, 6, 6, 6, 6, 6, 6, 6, 7, 7, 7, 7, 7, 7, 7, 7, 7, 7, 7, 7, 7, 7, 7, 7, 7, 7, 7, 7, 7, 7, 7, 7, 7, 7, 7, 7, 7, 7, 7, 7, 7, 7, 7, 7, 7, 7, 7, 7, 7, 7, 7, 7, 7, 7, 7, 7, 7, 7, 7, 7, 7, 7, 7, 7, 7, 7, 7, 7, 7, 7, 7, 7, 8, 8, 8, 8, 8, 8, 8, 8, 8, 8, 8, 8, 8, 8, 8, 8, 8, 8, 8, 8, 8, 8, 8, 8, 8, 8, 8, 8, 8, 8, 8, 8, 8, 8, 8, 8, 8, 8, 8, 8, 8, 8, 8, 8, 8, 8, 8, 8, 8, 8, 8, 8, 8, 8, 8, 8, 8, 8, 8, 8, 8, 8, 8, 8, 8, 8, 8, 8, 8, 8, 8, 8, 8, 8, 8, 8, 8, 8, 8, 8, 8, 8, 8, 8, 8, 8, 8, 8, 8, 8, 8, 8, 8, 8, 8, 8, 8, 8, 8, 8, 8, 8, 8, 8, 8, 8, 8, 8, 8, 8, 8, 8, 8, 8, 8, 8, 8, 8, 8, 8, 8, 8, 8, 8, 8, 8, 8, 8] : List UInt8))) <|
 .l (wrap .i64 ((0 : Int) + (wrap .i64 ((UInt8.toNat (getD ([0, 1, 2, 2, 3, 3, 3, 3, 4, 4, 4, 4, 4, 4, 4, 4, 5, 5, 5, 5, 5, 5, 5, 5, 5, 5, 5, 5, 5, 5, 5, 5, 6, 6, 6, 6, 6, 6, 6, 6, 6, 6, 6, 6, 6, 6, 6, 6, 6, 6, 6, 6, 6, 6, 6, 6, 6, 6, 6, 6, 6, 6, 6, 6, 7, 7, 7, 7, 7, 7, 7, 7, 7, 7, 7, 7, 7, 7, 7, 7, 7, 7, 7, 7, 7, 7, 7, 7, 7, 7, 7, 7, 7, 7, 7, 7, 7, 7, 7, 7, 7, 7, 7, 7, 7, 7, 7, 7, 7, 7, 7, 7, 7, 7, 7, 7, 7, 7, 7, 7, 7, 7, 7, 7, 7, 7, 7, 7, 8, 8, 8, 8, 8, 8, 8, 8, 8, 8, 8, 8, 8, 8, 8, 8, 8, 8, 8, 8, 8, 8, 8, 8, 8, 8, 8, 8, 8, 8, 8, 8, 8, 8, 8, 8, 8, 8, 8, 8, 8, 8, 8, 8, 8, 8, 8, 8, 8, 8, 8, 8, 8, 8, 8, 8, 8, 8, 8, 8, 8, 8, 8, 8, 8, 8, 8, 8, 8, 8, 8, 8, 8, 8, 8, 8, 8, 8, 8, 8, 8, 8, 8, 8, 8, 8, 8, 8, 8, 8, 8, 8, 8, 8, 8, 8, 8, 8, 8, 8, 8, 8, 8, 8, 8, 8, 8, 8, 8, 8, 8, 8, 8, 8, 8, 8, 8, 8, 8, 8, 8, 8, 8, 8, 8, 8, 8, 8] : List UInt8) (toNat (wrap .u8 a1_)) 0) : Nat) : Int)))))))
noncomputable def wash (a1_ : Int) : Option (Int) := (wasg a1_).ev
noncomputable def wbwf : RetK := yr [.tmp 2] (yj [.dat yi])
noncomputable def wbcn : FD := yd (yj [.dat (.int .u64)]) [] [] Int (fun x => wash x.1.1) (fun r => ([.dat yi r], []))
noncomputable def wasi (a1_ : Int) : Tr (Int) :=
 .c (Int) (wash a1_) fun r1_ =>
 .l r1_
noncomputable def wxk (a1_ : Int) : Option (Int) := (wasi a1_).ev
noncomputable def wbwg : RetK := yr [.tmp 2] (yj [.dat yi])
noncomputable def wajz : FD := yd (yj [.dat (.int .u64)]) [] [] Int (fun x => wxk x.1.1) (fun r => ([.dat yi r], []))
noncomputable def wqy (k : Int × (Int × (((HL [y1, y1] → Option (Int))) × Int))) (v : Int × ((List Nat) × Y2)) : Tr ((Int × ((List Nat) × Y2)) ⊕ ((List Nat) × Y2)) :=
 .t (decide (k.1 < v.1))
 (.g (inR v.1 (length v.2.1)) <|
 .g (decide ((toNat v.1) < length v.2.1) && decide ((getD v.2.1 (toNat v.1) 0) < length v.2.2)) <|
 .g (inR (wrap .i64 (v.1 - 1)) (length v.2.1)) <|
 .g (decide ((toNat (wrap .i64 (v.1 - 1))) < length v.2.1) && decide ((getD v.2.1 (toNat (wrap .i64 (v.1 - 1))) 0) < length v.2.2)) <|
 .c (Int) (k.2.2.1 ((getD v.2.2 (getD v.2.1 (toNat v.1) 0) ([] : Y1)), ((getD v.2.2 (getD v.2.1 (toNat (wrap .i64 (v.1 - 1))) 0) ([] : Y1)), ()))) fun r12_ =>
 .t (decide (r12_ < 0))
 (.g (inR (wrap .i64 (v.1 - 1)) (length v.2.1)) <|
 .g (decide ((toNat (wrap .i64 (v.1 - 1))) < length v.2.1) && decide ((getD v.2.1 (toNat (wrap .i64 (v.1 - 1))) 0) < length v.2.2)) <|
 .g (inR v.1 (length v.2.1)) <|
 .g (decide ((toNat v.1) < length v.2.1) && decide ((getD v.2.1 (toNat v.1) 0) < length v.2.2)) <|
 .g (inR v.1 (length v.2.1)) <|
 .g (decide ((toNat v.1) < length v.2.1)) <|
 .g (inR (wrap .i64 (v.1 - 1)) (length (set v.2.1 (toNat v.1) (getD v.2.1 (toNat (wrap .i64 (v.1 - 1))) 0)))) <|
 .g (decide ((toNat (wrap .i64 (v.1 - 1))) < length (set v.2.1 (toNat v.1) (getD v.2.1 (toNat (wrap .i64 (v.1 - 1))) 0)))) <|
 .l (.inl ((wrap .i64 (v.1 - 1)), ((set (set v.2.1 (toNat v.1) (getD v.2.1 (toNat (wrap .i64 (v.1 - 1))) 0)) (toNat (wrap .i64 (v.1 - 1))) (getD v.2.1 (toNat v.1) 0)), v.2.2))))
 (.l (.inr v.2)))
 (.l (.inr v.2))
noncomputable def wxl (k : Int × (Int × (((HL [y1, y1] → Option (Int))) × Int))) (v : Int × ((List Nat) × Y2)) : Option ((List Nat) × Y2) := iter (fun v => (wqy k v).ev) v
noncomputable def waaz : LD := ⟨{ acts := [], S := { slots := [0, 1, 2, 3, 8, 9], sh := (yj [.arr 64, .dat yi, .dat yi, .clo [y1, y1] yi, .dat yi, .dat yi]), obs := [(64, .perm 24 3 yi)] } }, [(2, { acts := [], S := { slots := [0, 1, 2, 3, 8], sh := (yj [.arr 64, .dat yi, .dat yi, .clo [y1, y1] yi, .dat yi]), obs := [(64, .perm 24 3 yi)] } })], (yh [] .nil), Int × (Int × (((HL [y1, y1] → Option (Int))) × Int)), Int × ((List Nat) × Y2), (List Nat) × Y2, fun k v => (((), (k.1, (k.2.1, (k.2.2.1, (k.2.2.2, (v.1, ())))))), (v.2, ())), fun t => (t.1.2.1, (t.1.2.2.1, (t.1.2.2.2.1, t.1.2.2.2.2.1))), fun t => (t.1.2.2.2.2.2.1, t.2.1), wqy, fun k r => .l (.exit 2 (wal ({ slots := [0, 1, 2, 3, 8], sh := (yj [.arr 64, .dat yi, .dat yi, .clo [y1, y1] yi, .dat yi]), obs := [(64, .perm 24 3 yi)] }) (((), (k.1, (k.2.1, (k.2.2.1, (k.2.2.2, ()))))), (r, ()))))⟩
noncomputable def wqz (k : Int × (Int × ((HL [y1, y1] → Option (Int))))) (v : Int × ((List Nat) × Y2)) : Tr ((Int × ((List Nat) × Y2)) ⊕ ((List Nat) × Y2)) :=
 .t (decide (v.1 < k.2.1))
 (.c ((List Nat) × Y2) (wxl (k.1, (k.2.1, (k.2.2, v.1))) (v.1, v.2)) fun r18_ =>
 .l (.inl ((wrap .i64 (v.1 + 1)), r18_)))
 (.l (.inr v.2))
noncomputable def wxm (k : Int × (Int × ((HL [y1, y1] → Option (Int))))) (v : Int × ((List Nat) × Y2)) : Option ((List Nat) × Y2) := iter (fun v => (wqz k v).ev) v
noncomputable def waba : LD := ⟨{ acts := [], S := { slots := [0, 1, 2, 3, 8], sh := (yj [.arr 64, .dat yi, .dat yi, .clo [y1, y1] yi, .dat yi]), obs := [(64, .perm 24 3 yi)] } }, [(0, { acts := [], S := { slots := [0], sh := (yj [.arr 64]), obs := [(64, .perm 24 3 yi)] } })], (yh [] .nil), Int × (Int × ((HL [y1, y1] → Option (Int)))), Int × ((List Nat) × Y2), (List Nat) × Y2, fun k v => (((), (k.1, (k.2.1, (k.2.2, (v.1, ()))))), (v.2, ())), fun t => (t.1.2.1, (t.1.2.2.1, t.1.2.2.2.1)), fun t => (t.1.2.2.2.2.1, t.2.1), wqz, fun _ r => .l (.exit 0 (wal ({ slots := [0], sh := (yj [.arr 64]), obs := [(64, .perm 24 3 yi)] }) (((), ()), (r, ()))))⟩
noncomputable def wasj (a2_ : Int) (a3_ : Int) (a4_ : (HL [y1, y1] → Option (Int))) (a1_ : (List Nat) × Y2) : Tr ((List Nat) × Y2) :=
 .c ((List Nat) × Y2) (wxm (a2_, (a3_, a4_)) ((wrap .i64 (a2_ + 1)), a1_)) fun r20_ =>
 .l r20_
noncomputable def wask (a2_ : Int) (a3_ : Int) (a4_ : (HL [y1, y1] → Option (Int))) (a1_ : (List Nat) × Y2) : Option ((List Nat) × Y2) := (wasj a2_ a3_ a4_ a1_).ev
noncomputable def wbwh : RetK := { acts := [], res := [], sh := .nil, obs := [(64, .perm 24 3 yi)], pins := [(0, 0, 64)] }
noncomputable def wbco : FD := yd (yj [.arr 64, .dat yi, .dat yi, .clo [y1, y1] yi]) [(64, .perm 24 3 yi)] [.arg 0] ((List Nat) × Y2) (fun x => wask x.1.2.1 x.1.2.2.1 x.1.2.2.2.1 x.2.1) (fun r => ([], [(64, .perm false 24 3 yi r.1 r.2)]))
noncomputable def wasl : Env := wab []
noncomputable def wasm : List (Nat × LD) := [(2, waaz), (0, waba)]
noncomputable def wafn : Code := (f251.body).getD .skip
noncomputable def wasn (a1_ : Int) : Tr (Int) :=
 .c (Int) (wxk (wrap .u64 a1_)) fun r1_ =>
 .g (decide (0 ≤ r1_)) <|
 .l (wrap .u64 ((1 : Int) * 2 ^ (min (toNat r1_) (IntKind.bits .u64))))
noncomputable def waka (a1_ : Int) : Option (Int) := (wasn a1_).ev
noncomputable def wbwi : RetK := yr [.tmp 2] (yj [.dat (.int .u64)])
noncomputable def waso : FD := yd (yj [.dat yi]) [] [] Int (fun x => waka x.1.1) (fun r => ([.dat (.int .u64) r], []))
noncomputable def wasp (a1_ : Int) : Tr (Int × Int) :=
 .g (decide ((0 : Int) ≤ (13 : Int))) <|
 .g (decide ((0 : Int) ≤ (7 : Int))) <|
 .g (decide ((0 : Int) ≤ (17 : Int))) <|
 .l ((wrap .u64 (BitVec.toNat ((BitVec.ofInt (IntKind.bits .u64) (wrap .u64 (BitVec.toNat ((BitVec.ofInt (IntKind.bits .u64) (wrap .u64 (BitVec.toNat ((BitVec.ofInt (IntKind.bits .u64) a1_) ^^^ (BitVec.ofInt (IntKind.bits .u64) (wrap .u64 (a1_ * 2 ^ (min (toNat 13) (IntKind.bits .u64))))))))) ^^^ (BitVec.ofInt (IntKind.bits .u64) (Int.fdiv (wrap .u64 (BitVec.toNat ((BitVec.ofInt (IntKind.bits .u64) a1_) ^^^ (BitVec.ofInt (IntKind.bits .u64) (wrap .u64 (a1_ * 2 ^ (min (toNat 13) (IntKind.bits .u64)))))))) (2 ^ (min (toNat 7) (IntKind.bits .u64))))))))) ^^^ (BitVec.ofInt (IntKind.bits .u64) (wrap .u64 ((wrap .u64 (BitVec.toNat ((BitVec.ofInt (IntKind.bits .u64) (wrap .u64 (BitVec.toNat ((BitVec.ofInt (IntKind.bits .u64) a1_) ^^^ (BitVec.ofInt (IntKind.bits .u64) (wrap .u64 (a1_ * 2 ^ (min (toNat 13) (IntKind.bits .u64))))))))) ^^^ (BitVec.ofInt (IntKind.bits .u64) (Int.fdiv (wrap .u64 (BitVec.toNat ((BitVec.ofInt (IntKind.bits .u64) a1_) ^^^ (BitVec.ofInt (IntKind.bits .u64) (wrap .u64 (a1_ * 2 ^ (min (toNat 13) (IntKind.bits .u64)))))))) (2 ^ (min (toNat 7) (IntKind.bits .u64)))))))) * 2 ^ (min (toNat 17) (IntKind.bits .u64)))))))), (wrap .u64 (BitVec.toNat ((BitVec.ofInt (IntKind.bits .u64) (wrap .u64 (BitVec.toNat ((BitVec.ofInt (IntKind.bits .u64) (wrap .u64 (BitVec.toNat ((BitVec.ofInt (IntKind.bits .u64) a1_) ^^^ (BitVec.ofInt (IntKind.bits .u64) (wrap .u64 (a1_ * 2 ^ (min (toNat 13) (IntKind.bits .u64))))))))) ^^^ (BitVec.ofInt (IntKind.bits .u64) (Int.fdiv (wrap .u64 (BitVec.toNat ((BitVec.ofInt (IntKind.bits .u64) a1_) ^^^ (BitVec.ofInt (IntKind.bits .u64) (wrap .u64 (a1_ * 2 ^ (min (toNat 13) (IntKind.bits .u64)))))))) (2 ^ (min (toNat 7) (IntKind.bits .u64))))))))) ^^^ (BitVec.ofInt (IntKind.bits .u64) (wrap .u64 ((wrap .u64 (BitVec.toNat ((BitVec.ofInt (IntKind.bits .u64) (wrap .u64 (BitVec.toNat ((BitVec.ofInt (IntKind.bits .u64) a1_) ^^^ (BitVec.ofInt (IntKind.bits .u64) (wrap .u64 (a1_ * 2 ^ (min (toNat 13) (IntKind.bits .u64))))))))) ^^^ (BitVec.ofInt (IntKind.bits .u64) (Int.fdiv (wrap .u64 (BitVec.toNat ((BitVec.ofInt (IntKind.bits .u64) a1_) ^^^ (BitVec.ofInt (IntKind.bits .u64) (wrap .u64 (a1_ * 2 ^ (min (toNat 13) (IntKind.bits .u64)))))))) (2 ^ (min (toNat 7) (IntKind.bits .u64)))))))) * 2 ^ (min (toNat 17) (IntKind.bits .u64)))))))))
noncomputable def wakb (a1_ : Int) : Option (Int × Int) := (wasp a1_).ev
noncomputable def wbwj : RetK := { acts := [], res := [.tmp 2], sh := (yj [.dat (.int .u64)]), obs := [(64, .cells (yj [.dat (.int .u64)]))], pins := [(0, 0, 64)] }
noncomputable def wasq : FD := yd (yj [.box 64 0]) [(64, .cells (yj [.dat (.int .u64)]))] [.arg 0] (Int × (Int)) (fun x => wakb x.2.1.1) (fun r => ([.dat (.int .u64) r.1], [(64, .cells [.dat (.int .u64) r.2])]))
noncomputable def wra (k : Int × (Int × Int)) (v : Int × (((List Nat) × Y2) × Int)) : Tr ((Int × (((List Nat) × Y2) × Int)) ⊕ ((List Nat) × Y2)) :=
 .g (!decide ((4 : Int) = 0)) <|
 .t (decide (v.1 ≤ (wrap .i64 ((wrap .i64 (k.1 + (wrap .i64 ((wrap .i64 (Int.tdiv k.2.1 (4 : Int))) * (2 : Int))))) + 1))))
 (.c (Int × Int) (wakb v.2.2) fun r8_ =>
 .t (decide (k.2.1 ≤ (wrap .i64 (wrap .u64 (BitVec.toNat ((BitVec.ofInt (IntKind.bits .u64) r8_.1) &&& (BitVec.ofInt (IntKind.bits .u64) (wrap .u64 (k.2.2 - 1)))))))))
 (.g (inR (wrap .i64 (k.1 + (wrap .i64 ((wrap .i64 (wrap .u64 (BitVec.toNat ((BitVec.ofInt (IntKind.bits .u64) r8_.1) &&& (BitVec.ofInt (IntKind.bits .u64) (wrap .u64 (k.2.2 - 1))))))) - k.2.1)))) (length v.2.1.1)) <|
 .g (decide ((toNat (wrap .i64 (k.1 + (wrap .i64 ((wrap .i64 (wrap .u64 (BitVec.toNat ((BitVec.ofInt (IntKind.bits .u64) r8_.1) &&& (BitVec.ofInt (IntKind.bits .u64) (wrap .u64 (k.2.2 - 1))))))) - k.2.1))))) < length v.2.1.1) && decide ((getD v.2.1.1 (toNat (wrap .i64 (k.1 + (wrap .i64 ((wrap .i64 (wrap .u64 (BitVec.toNat ((BitVec.ofInt (IntKind.bits .u64) r8_.1) &&& (BitVec.ofInt (IntKind.bits .u64) (wrap .u64 (k.2.2 - 1))))))) - k.2.1))))) 0) < length v.2.1.2)) <|
 .g (inR v.1 (length v.2.1.1)) <|
 .g (decide ((toNat v.1) < length v.2.1.1) && decide ((getD v.2.1.1 (toNat v.1) 0) < length v.2.1.2)) <|
 .g (inR v.1 (length v.2.1.1)) <|
 .g (decide ((toNat v.1) < length v.2.1.1)) <|
 .g (inR (wrap .i64 (k.1 + (wrap .i64 ((wrap .i64 (wrap .u64 (BitVec.toNat ((BitVec.ofInt (IntKind.bits .u64) r8_.1) &&& (BitVec.ofInt (IntKind.bits .u64) (wrap .u64 (k.2.2 - 1))))))) - k.2.1)))) (length (set v.2.1.1 (toNat v.1) (getD v.2.1.1 (toNat (wrap .i64 (k.1 + (wrap .i64 ((wrap .i64 (wrap .u64 (BitVec.toNat ((BitVec.ofInt (IntKind.bits .u64) r8_.1) &&& (BitVec.ofInt (IntKind.bits .u64) (wrap .u64 (k.2.2 - 1))))))) - k.2.1))))) 0)))) <|
 .g (decide ((toNat (wrap .i64 (k.1 + (wrap .i64 ((wrap .i64 (wrap .u64 (BitVec.toNat ((BitVec.ofInt (IntKind.bits .u64) r8_.1) &&& (BitVec.ofInt (IntKind.bits .u64) (wrap .u64 (k.2.2 - 1))))))) - k.2.1))))) < length (set v.2.1.1 (toNat v.1) (getD v.2.1.1 (toNat (wrap .i64 (k.1 + (wrap .i64 ((wrap .i64 (wrap .u64 (BitVec.toNat ((BitVec.ofInt (IntKind.bits .u64) r8_.1) &&& (BitVec.ofInt (IntKind.bits .u64) (wrap .u64 (k.2.2 - 1))))))) - k.2.1))))) 0)))) <|
 .l (.inl ((wrap .i64 (v.1 + 1)), (((set (set v.2.1.1 (toNat v.1) (getD v.2.1.1 (toNat (wrap .i64 (k.1 + (wrap .i64 ((wrap .i64 (wrap .u64 (BitVec.toNat ((BitVec.ofInt (IntKind.bits .u64) r8_.1) &&& (BitVec.ofInt (IntKind.bits .u64) (wrap .u64 (k.2.2 - 1))))))) - k.2.1))))) 0)) (toNat (wrap .i64 (k.1 + (wrap .i64 ((wrap .i64 (wrap .u64 (BitVec.toNat ((BitVec.ofInt (IntKind.bits .u64) r8_.1) &&& (BitVec.ofInt (IntKind.bits .u64) (wrap .u64 (k.2.2 - 1))))))) - k.2.1))))) (getD v.2.1.1 (toNat v.1) 0)), v.2.1.2), r8_.2))))
 (.g (inR (wrap .i64 (k.1 + (wrap .i64 (wrap .u64 (BitVec.toNat ((BitVec.ofInt (IntKind.bits .u64) r8_.1) &&& (BitVec.ofInt (IntKind.bits .u64) (wrap .u64 (k.2.2 - 1))))))))) (length v.2.1.1)) <|
 .g (decide ((toNat (wrap .i64 (k.1 + (wrap .i64 (wrap .u64 (BitVec.toNat ((BitVec.ofInt (IntKind.bits .u64) r8_.1) &&& (BitVec.ofInt (IntKind.bits .u64) (wrap .u64 (k.2.2 - 1)))))))))) < length v.2.1.1) && decide ((getD v.2.1.1 (toNat (wrap .i64 (k.1 + (wrap .i64 (wrap .u64 (BitVec.toNat ((BitVec.ofInt (IntKind.bits .u64) r8_.1) &&& (BitVec.ofInt (IntKind.bits .u64) (wrap .u64 (k.2.2 - 1)))))))))) 0) < length v.2.1.2)) <|
 .g (inR v.1 (length v.2.1.1)) <|
 .g (decide ((toNat v.1) < length v.2.1.1) && decide ((getD v.2.1.1 (toNat v.1) 0) < length v.2.1.2)) <|
 .g (inR v.1 (length v.2.1.1)) <|
 .g (decide ((toNat v.1) < length v.2.1.1)) <|
 .g (inR (wrap .i64 (k.1 + (wrap .i64 (wrap .u64 (BitVec.toNat ((BitVec.ofInt (IntKind.bits .u64) r8_.1) &&& (BitVec.ofInt (IntKind.bits .u64) (wrap .u64 (k.2.2 - 1))))))))) (length (set v.2.1.1 (toNat v.1) (getD v.2.1.1 (toNat (wrap .i64 (k.1 + (wrap .i64 (wrap .u64 (BitVec.toNat ((BitVec.ofInt (IntKind.bits .u64) r8_.1) &&& (BitVec.ofInt (IntKind.bits .u64) (wrap .u64 (k.2.2 - 1)))))))))) 0)))) <|
 .g (decide ((toNat (wrap .i64 (k.1 + (wrap .i64 (wrap .u64 (BitVec.toNat ((BitVec.ofInt (IntKind.bits .u64) r8_.1) &&& (BitVec.ofInt (IntKind.bits .u64) (wrap .u64 (k.2.2 - 1)))))))))) < length (set v.2.1.1 (toNat v.1) (getD v.2.1.1 (toNat (wrap .i64 (k.1 + (wrap .i64 (wrap .u64 (BitVec.toNat ((BitVec.ofInt (IntKind.bits .u64) r8_.1) &&& (BitVec.ofInt (IntKind.bits .u64) (wrap .u64 (k.2.2 - 1)))))))))) 0)))) <|
 .l (.inl ((wrap .i64 (v.1 + 1)), (((set (set v.2.1.1 (toNat v.1) (getD v.2.1.1 (toNat (wrap .i64 (k.1 + (wrap .i64 (wrap .u64 (BitVec.toNat ((BitVec.ofInt (IntKind.bits .u64) r8_.1) &&& (BitVec.ofInt (IntKind.bits .u64) (wrap .u64 (k.2.2 - 1)))))))))) 0)) (toNat (wrap .i64 (k.1 + (wrap .i64 (wrap .u64 (BitVec.toNat ((BitVec.ofInt (IntKind.bits .u64) r8_.1) &&& (BitVec.ofInt (IntKind.bits .u64) (wrap .u64 (k.2.2 - 1)))))))))) (getD v.2.1.1 (toNat v.1) 0)), v.2.1.2), r8_.2)))))
 (.l (.inr v.2.1))
noncomputable def wxn (k : Int × (Int × Int)) (v : Int × (((List Nat) × Y2) × Int)) : Option ((List Nat) × Y2) := iter (fun v => (wra k v).ev) v
noncomputable def wabb : LD := ⟨{ acts := [], S := { slots := [0, 1, 8, 9, 10, 11], sh := (yj [.arr 64, .dat yi, .dat yi, .box 9 0, .dat (.int .u64), .dat yi]), obs := [(64, .perm 24 3 yi), (9, .cells (yj [.dat (.int .u64)]))] } }, [(0, { acts := [], S := { slots := [0], sh := (yj [.arr 64]), obs := [(64, .perm 24 3 yi)] } })], (yh [] .nil), Int × (Int × Int), Int × (((List Nat) × Y2) × Int), (List Nat) × Y2, fun k v => (((), (k.1, (k.2.1, ((), (k.2.2, (v.1, ())))))), (v.2.1, ((v.2.2, ()), ()))), fun t => (t.1.2.1, (t.1.2.2.1, t.1.2.2.2.2.1)), fun t => (t.1.2.2.2.2.2.1, (t.2.1, t.2.2.1.1)), wra, fun _ r => .l (.exit 0 (wal ({ slots := [0], sh := (yj [.arr 64]), obs := [(64, .perm 24 3 yi)] }) (((), ()), (r, ()))))⟩
noncomputable def wasr (a2_ : Int) (a3_ : Int) (_a4_ : (HL [y1, y1] → Option (Int))) (a1_ : (List Nat) × Y2) : Tr ((List Nat) × Y2) :=
 .t (decide ((8 : Int) ≤ (wrap .i64 (a3_ - a2_))))
 (.c (Int) (waka (wrap .i64 (a3_ - a2_))) fun r1_ =>
 .g (!decide ((4 : Int) = 0)) <|
 .c ((List Nat) × Y2) (wxn (a2_, ((wrap .i64 (a3_ - a2_)), r1_)) ((wrap .i64 ((wrap .i64 (a2_ + (wrap .i64 ((wrap .i64 (Int.tdiv (wrap .i64 (a3_ - a2_)) (4 : Int))) * (2 : Int))))) - 1)), (a1_, (wrap .u64 (wrap .i64 (a3_ - a2_)))))) fun r10_ =>
 .l r10_)
 (.l a1_)
noncomputable def wass (a2_ : Int) (a3_ : Int) (a4_ : (HL [y1, y1] → Option (Int))) (a1_ : (List Nat) × Y2) : Option ((List Nat) × Y2) := (wasr a2_ a3_ a4_ a1_).ev
noncomputable def wbwk : RetK := { acts := [], res := [], sh := .nil, obs := [(64, .perm 24 3 yi)], pins := [(0, 0, 64)] }
noncomputable def wbcp : FD := yd (yj [.arr 64, .dat yi, .dat yi, .clo [y1, y1] yi]) [(64, .perm 24 3 yi)] [.arg 0] ((List Nat) × Y2) (fun x => wass x.1.2.1 x.1.2.2.1 x.1.2.2.2.1 x.2.1) (fun r => ([], [(64, .perm false 24 3 yi r.1 r.2)]))
noncomputable def wbcq : Env := wab [(270, waso), (271, wasq)]
noncomputable def wbcr : List (Nat × LD) := [(0, wabb)]
noncomputable def wast : Code := (f253.body).getD .skip
noncomputable def wasu (a1_ : List Y1) (a2_ : Int) (a3_ : Int) (a5_ : (HL [y1, y1] → Option (Int))) (a4_ : Int) : Tr (Int × (Int × Int)) :=
 .g (inR a3_ (length a1_)) <|
 .g (inR a2_ (length a1_)) <|
 .c (Int) (a5_ ((getD a1_ (toNat a3_) ([] : Y1)), ((getD a1_ (toNat a2_) ([] : Y1)), ()))) fun r1_ =>
 .t (decide (r1_ < 0))
 (.l (a3_, (a2_, (wrap .i64 (a4_ + 1)))))
 (.l (a2_, (a3_, a4_)))
noncomputable def wafo (a1_ : List Y1) (a2_ : Int) (a3_ : Int) (a5_ : (HL [y1, y1] → Option (Int))) (a4_ : Int) : Option (Int × (Int × Int)) := (wasu a1_ a2_ a3_ a5_ a4_).ev
noncomputable def wbwl : RetK := { acts := [], res := [.tmp 10, .tmp 11], sh := (yj [.dat yi, .dat yi]), obs := [(64, .cells (yj [.dat yi]))], pins := [(3, 0, 64)] }
noncomputable def wbcs : FD := yd (yj [.dat y2, .dat yi, .dat yi, .box 64 0, .clo [y1, y1] yi]) [(64, .cells (yj [.dat yi]))] [.arg 3] (Int × (Int × Int)) (fun x => wafo x.1.1 x.1.2.1 x.1.2.2.1 x.1.2.2.2.2.1 x.2.1.1) (fun r => ([.dat yi r.1, .dat yi r.2.1], [(64, .cells [.dat yi r.2.2])]))
noncomputable def wasv (a1_ : List Y1) (a2_ : Int) (a3_ : Int) (a4_ : Int) (a6_ : (HL [y1, y1] → Option (Int))) (a5_ : Int) : Tr (Int × Int) :=
 .c (Int × (Int × Int)) (wafo a1_ a2_ a3_ a6_ a5_) fun r1_ =>
 .c (Int × (Int × Int)) (wafo a1_ r1_.2.1 a4_ a6_ r1_.2.2) fun r2_ =>
 .c (Int × (Int × Int)) (wafo a1_ r1_.1 r2_.1 a6_ r2_.2.2) fun r3_ =>
 .l (r3_.2.1, r3_.2.2)
noncomputable def wafp (a1_ : List Y1) (a2_ : Int) (a3_ : Int) (a4_ : Int) (a6_ : (HL [y1, y1] → Option (Int))) (a5_ : Int) : Option (Int × Int) := (wasv a1_ a2_ a3_ a4_ a6_ a5_).ev
noncomputable def wbwm : RetK := { acts := [], res := [.tmp 12], sh := (yj [.dat yi]), obs := [(64, .cells (yj [.dat yi]))], pins := [(4, 0, 64)] }
noncomputable def wasw : FD := yd (yj [.dat y2, .dat yi, .dat yi, .dat yi, .box 64 0, .clo [y1, y1] yi]) [(64, .cells (yj [.dat yi]))] [.arg 4] (Int × (Int)) (fun x => wafp x.1.1 x.1.2.1 x.1.2.2.1 x.1.2.2.2.1 x.1.2.2.2.2.2.1 x.2.1.1) (fun r => ([.dat yi r.1], [(64, .cells [.dat yi r.2])]))
noncomputable def wasx (a1_ : List Y1) (a2_ : Int) (a4_ : (HL [y1, y1] → Option (Int))) (a3_ : Int) : Tr (Int × Int) :=
 .c (Int × Int) (wafp a1_ (wrap .i64 (a2_ - 1)) a2_ (wrap .i64 (a2_ + 1)) a4_ a3_) fun r1_ =>
 .l (r1_.1, r1_.2)
noncomputable def wafq (a1_ : List Y1) (a2_ : Int) (a4_ : (HL [y1, y1] → Option (Int))) (a3_ : Int) : Option (Int × Int) := (wasx a1_ a2_ a4_ a3_).ev
noncomputable def wbwn : RetK := { acts := [], res := [.tmp 8], sh := (yj [.dat yi]), obs := [(64, .cells (yj [.dat yi]))], pins := [(2, 0, 64)] }
noncomputable def wbct : FD := yd (yj [.dat y2, .dat yi, .box 64 0, .clo [y1, y1] yi]) [(64, .cells (yj [.dat yi]))] [.arg 2] (Int × (Int)) (fun x => wafq x.1.1 x.1.2.1 x.1.2.2.2.1 x.2.1.1) (fun r => ([.dat yi r.1], [(64, .cells [.dat yi r.2])]))
noncomputable def wasy (a1_ : List Y1) (a2_ : Int) (a3_ : Int) (a4_ : (HL [y1, y1] → Option (Int))) : Tr (Int × Int) :=
 .g (!decide ((4 : Int) = 0)) <|
 .g (!decide ((4 : Int) = 0)) <|
 .g (!decide ((4 : Int) = 0)) <|
 .t (decide ((8 : Int) ≤ (wrap .i64 (a3_ - a2_))))
 (.t (decide ((50 : Int) ≤ (wrap .i64 (a3_ - a2_))))
 (.c (Int × Int) (wafq a1_ (wrap .i64 (a2_ + (wrap .i64 ((wrap .i64 (Int.tdiv (wrap .i64 (a3_ - a2_)) (4 : Int))) * (1 : Int))))) a4_ (0 : Int)) fun r1_ =>
 .c (Int × Int) (wafq a1_ (wrap .i64 (a2_ + (wrap .i64 ((wrap .i64 (Int.tdiv (wrap .i64 (a3_ - a2_)) (4 : Int))) * (2 : Int))))) a4_ r1_.2) fun r2_ =>
 .c (Int × Int) (wafq a1_ (wrap .i64 (a2_ + (wrap .i64 ((wrap .i64 (Int.tdiv (wrap .i64 (a3_ - a2_)) (4 : Int))) * (3 : Int))))) a4_ r2_.2) fun r3_ =>
 .c (Int × Int) (wafp a1_ r1_.1 r2_.1 r3_.1 a4_ r3_.2) fun r4_ =>
 .t (r4_.2 == 0)
 (.l (r4_.1, (1 : Int)))
 (.t (r4_.2 == 12)
 (.l (r4_.1, (2 : Int)))
 (.l (r4_.1, (0 : Int)))))
 (.c (Int × Int) (wafp a1_ (wrap .i64 (a2_ + (wrap .i64 ((wrap .i64 (Int.tdiv (wrap .i64 (a3_ - a2_)) (4 : Int))) * (1 : Int))))) (wrap .i64 (a2_ + (wrap .i64 ((wrap .i64 (Int.tdiv (wrap .i64 (a3_ - a2_)) (4 : Int))) * (2 : Int))))) (wrap .i64 (a2_ + (wrap .i64 ((wrap .i64 (Int.tdiv (wrap .i64 (a3_ - a2_)) (4 : Int))) * (3 : Int))))) a4_ (0 : Int)) fun r5_ =>
 .t (r5_.2 == 0)
 (.l (r5_.1, (1 : Int)))
 (.t (r5_.2 == 12)
 (.l (r5_.1, (2 : Int)))
 (.l (r5_.1, (0 : Int))))))
 (.t ((0 : Int) == (0 : Int))
 (.l ((wrap .i64 (a2_ + (wrap .i64 ((wrap .i64 (Int.tdiv (wrap .i64 (a3_ - a2_)) (4 : Int))) * (2 : Int))))), (1 : Int)))
 (.t ((0 : Int) == (12 : Int))
 (.l ((wrap .i64 (a2_ + (wrap .i64 ((wrap .i64 (Int.tdiv (wrap .i64 (a3_ - a2_)) (4 : Int))) * (2 : Int))))), (2 : Int)))
 (.l ((wrap .i64 (a2_ + (wrap .i64 ((wrap .i64 (Int.tdiv (wrap .i64 (a3_ - a2_)) (4 : Int))) * (2 : Int))))), (0 : Int)))))
noncomputable def wakc (a1_ : List Y1) (a2_ : Int) (a3_ : Int) (a4_ : (HL [y1, y1] → Option (Int))) : Option (Int × Int) := (wasy a1_ a2_ a3_ a4_).ev
noncomputable def wbwo : RetK := yr [.tmp 8, .tmp 9] (yj [.dat yi, .dat yi])
noncomputable def wbcu : FD := yd (yj [.dat y2, .dat yi, .dat yi, .clo [y1, y1] yi]) [] [] (Int × (Int)) (fun x => wakc x.1.1 x.1.2.1 x.1.2.2.1 x.1.2.2.2.1) (fun r => ([.dat yi r.1, .dat yi r.2], []))
noncomputable def wrb (k : Int × (((HL [y1, y1] → Option (Int))) × (Int × ((List Nat) × Y2)))) (v : Int) : Tr ((Int) ⊕ (Int)) :=
 .t (decide (v ≤ k.2.2.1))
 (.g (inR v (length k.2.2.2.1)) <|
 .g (decide ((toNat v) < length k.2.2.2.1) && decide ((getD k.2.2.2.1 (toNat v) 0) < length k.2.2.2.2)) <|
 .g (inR k.1 (length k.2.2.2.1)) <|
 .g (decide ((toNat k.1) < length k.2.2.2.1) && decide ((getD k.2.2.2.1 (toNat k.1) 0) < length k.2.2.2.2)) <|
 .c (Int) (k.2.1 ((getD k.2.2.2.2 (getD k.2.2.2.1 (toNat v) 0) ([] : Y1)), ((getD k.2.2.2.2 (getD k.2.2.2.1 (toNat k.1) 0) ([] : Y1)), ()))) fun r6_ =>
 .t (decide (r6_ < 0))
 (.l (.inl (wrap .i64 (v + 1))))
 (.l (.inr v)))
 (.l (.inr v))
noncomputable def wxo (k : Int × (((HL [y1, y1] → Option (Int))) × (Int × ((List Nat) × Y2)))) (v : Int) : Option (Int) := iter (fun v => (wrb k v).ev) v
noncomputable def wabc : LD := ⟨{ acts := [], S := { slots := [0, 1, 4, 12, 13], sh := (yj [.arr 64, .dat yi, .clo [y1, y1] yi, .dat yi, .dat yi]), obs := [(64, .perm 24 3 yi)] } }, [(0, { acts := [], S := { slots := [0, 1, 4, 12, 13], sh := (yj [.arr 64, .dat yi, .clo [y1, y1] yi, .dat yi, .dat yi]), obs := [(64, .perm 24 3 yi)] } })], (yh [] .nil), Int × (((HL [y1, y1] → Option (Int))) × (Int × ((List Nat) × Y2))), Int, Int, fun k v => (((), (k.1, (k.2.1, (v, (k.2.2.1, ()))))), (k.2.2.2, ())), fun t => (t.1.2.1, (t.1.2.2.1, (t.1.2.2.2.2.1, t.2.1))), fun t => t.1.2.2.2.1, wrb, fun k r => .l (.exit 0 (wal ({ slots := [0, 1, 4, 12, 13], sh := (yj [.arr 64, .dat yi, .clo [y1, y1] yi, .dat yi, .dat yi]), obs := [(64, .perm 24 3 yi)] }) (((), (k.1, (k.2.1, (r, (k.2.2.1, ()))))), (k.2.2.2, ()))))⟩
noncomputable def wrc (k : Int × (((HL [y1, y1] → Option (Int))) × (Int × ((List Nat) × Y2)))) (v : Int) : Tr ((Int) ⊕ (Int)) :=
 .t (decide (k.2.2.1 ≤ v))
 (.g (inR v (length k.2.2.2.1)) <|
 .g (decide ((toNat v) < length k.2.2.2.1) && decide ((getD k.2.2.2.1 (toNat v) 0) < length k.2.2.2.2)) <|
 .g (inR k.1 (length k.2.2.2.1)) <|
 .g (decide ((toNat k.1) < length k.2.2.2.1) && decide ((getD k.2.2.2.1 (toNat k.1) 0) < length k.2.2.2.2)) <|
 .c (Int) (k.2.1 ((getD k.2.2.2.2 (getD k.2.2.2.1 (toNat v) 0) ([] : Y1)), ((getD k.2.2.2.2 (getD k.2.2.2.1 (toNat k.1) 0) ([] : Y1)), ()))) fun r18_ =>
 .t (!(decide (r18_ < 0)))
 (.l (.inl (wrap .i64 (v - 1))))
 (.l (.inr v)))
 (.l (.inr v))
noncomputable def wxp (k : Int × (((HL [y1, y1] → Option (Int))) × (Int × ((List Nat) × Y2)))) (v : Int) : Option (Int) := iter (fun v => (wrc k v).ev) v
noncomputable def wabd : LD := ⟨{ acts := [], S := { slots := [0, 1, 4, 12, 13], sh := (yj [.arr 64, .dat yi, .clo [y1, y1] yi, .dat yi, .dat yi]), obs := [(64, .perm 24 3 yi)] } }, [(2, { acts := [], S := { slots := [0, 1, 4, 12, 13], sh := (yj [.arr 64, .dat yi, .clo [y1, y1] yi, .dat yi, .dat yi]), obs := [(64, .perm 24 3 yi)] } })], (yh [] .nil), Int × (((HL [y1, y1] → Option (Int))) × (Int × ((List Nat) × Y2))), Int, Int, fun k v => (((), (k.1, (k.2.1, (k.2.2.1, (v, ()))))), (k.2.2.2, ())), fun t => (t.1.2.1, (t.1.2.2.1, (t.1.2.2.2.1, t.2.1))), fun t => t.1.2.2.2.2.1, wrc, fun k r => .l (.exit 2 (wal ({ slots := [0, 1, 4, 12, 13], sh := (yj [.arr 64, .dat yi, .clo [y1, y1] yi, .dat yi, .dat yi]), obs := [(64, .perm 24 3 yi)] }) (((), (k.1, (k.2.1, (k.2.2.1, (r, ()))))), (k.2.2.2, ()))))⟩
noncomputable def wrd (k : Int × (((HL [y1, y1] → Option (Int))) × (Int × ((List Nat) × Y2)))) (v : Int) : Tr ((Int) ⊕ (Int)) :=
 .t (decide (v ≤ k.2.2.1))
 (.g (inR v (length k.2.2.2.1)) <|
 .g (decide ((toNat v) < length k.2.2.2.1) && decide ((getD k.2.2.2.1 (toNat v) 0) < length k.2.2.2.2)) <|
 .g (inR k.1 (length k.2.2.2.1)) <|
 .g (decide ((toNat k.1) < length k.2.2.2.1) && decide ((getD k.2.2.2.1 (toNat k.1) 0) < length k.2.2.2.2)) <|
 .c (Int) (k.2.1 ((getD k.2.2.2.2 (getD k.2.2.2.1 (toNat v) 0) ([] : Y1)), ((getD k.2.2.2.2 (getD k.2.2.2.1 (toNat k.1) 0) ([] : Y1)), ()))) fun r35_ =>
 .t (decide (r35_ < 0))
 (.l (.inl (wrap .i64 (v + 1))))
 (.l (.inr v)))
 (.l (.inr v))
noncomputable def wxq (k : Int × (((HL [y1, y1] → Option (Int))) × (Int × ((List Nat) × Y2)))) (v : Int) : Option (Int) := iter (fun v => (wrd k v).ev) v
noncomputable def wabe : LD := ⟨{ acts := [], S := { slots := [0, 1, 4, 12, 13], sh := (yj [.arr 64, .dat yi, .clo [y1, y1] yi, .dat yi, .dat yi]), obs := [(64, .perm 24 3 yi)] } }, [(6, { acts := [], S := { slots := [0, 1, 4, 12, 13], sh := (yj [.arr 64, .dat yi, .clo [y1, y1] yi, .dat yi, .dat yi]), obs := [(64, .perm 24 3 yi)] } })], (yh [] .nil), Int × (((HL [y1, y1] → Option (Int))) × (Int × ((List Nat) × Y2))), Int, Int, fun k v => (((), (k.1, (k.2.1, (v, (k.2.2.1, ()))))), (k.2.2.2, ())), fun t => (t.1.2.1, (t.1.2.2.1, (t.1.2.2.2.2.1, t.2.1))), fun t => t.1.2.2.2.1, wrd, fun k r => .l (.exit 6 (wal ({ slots := [0, 1, 4, 12, 13], sh := (yj [.arr 64, .dat yi, .clo [y1, y1] yi, .dat yi, .dat yi]), obs := [(64, .perm 24 3 yi)] }) (((), (k.1, (k.2.1, (r, (k.2.2.1, ()))))), (k.2.2.2, ()))))⟩
noncomputable def wre (k : Int × (((HL [y1, y1] → Option (Int))) × (Int × ((List Nat) × Y2)))) (v : Int) : Tr ((Int) ⊕ (Int)) :=
 .t (decide (k.2.2.1 ≤ v))
 (.g (inR v (length k.2.2.2.1)) <|
 .g (decide ((toNat v) < length k.2.2.2.1) && decide ((getD k.2.2.2.1 (toNat v) 0) < length k.2.2.2.2)) <|
 .g (inR k.1 (length k.2.2.2.1)) <|
 .g (decide ((toNat k.1) < length k.2.2.2.1) && decide ((getD k.2.2.2.1 (toNat k.1) 0) < length k.2.2.2.2)) <|
 .c (Int) (k.2.1 ((getD k.2.2.2.2 (getD k.2.2.2.1 (toNat v) 0) ([] : Y1)), ((getD k.2.2.2.2 (getD k.2.2.2.1 (toNat k.1) 0) ([] : Y1)), ()))) fun r47_ =>
 .t (!(decide (r47_ < 0)))
 (.l (.inl (wrap .i64 (v - 1))))
 (.l (.inr v)))
 (.l (.inr v))
noncomputable def wxr (k : Int × (((HL [y1, y1] → Option (Int))) × (Int × ((List Nat) × Y2)))) (v : Int) : Option (Int) := iter (fun v => (wre k v).ev) v
noncomputable def wabf : LD := ⟨{ acts := [], S := { slots := [0, 1, 4, 12, 13], sh := (yj [.arr 64, .dat yi, .clo [y1, y1] yi, .dat yi, .dat yi]), obs := [(64, .perm 24 3 yi)] } }, [(8, { acts := [], S := { slots := [0, 1, 4, 12, 13], sh := (yj [.arr 64, .dat yi, .clo [y1, y1] yi, .dat yi, .dat yi]), obs := [(64, .perm 24 3 yi)] } })], (yh [] .nil), Int × (((HL [y1, y1] → Option (Int))) × (Int × ((List Nat) × Y2))), Int, Int, fun k v => (((), (k.1, (k.2.1, (k.2.2.1, (v, ()))))), (k.2.2.2, ())), fun t => (t.1.2.1, (t.1.2.2.1, (t.1.2.2.2.1, t.2.1))), fun t => t.1.2.2.2.2.1, wre, fun k r => .l (.exit 8 (wal ({ slots := [0, 1, 4, 12, 13], sh := (yj [.arr 64, .dat yi, .clo [y1, y1] yi, .dat yi, .dat yi]), obs := [(64, .perm 24 3 yi)] }) (((), (k.1, (k.2.1, (k.2.2.1, (r, ()))))), (k.2.2.2, ()))))⟩
noncomputable def wrf (k : Int × ((HL [y1, y1] → Option (Int)))) (v : Int × (Int × ((List Nat) × Y2))) : Tr ((Int × (Int × ((List Nat) × Y2))) ⊕ (Int × ((List Nat) × Y2))) :=
 .c (Int) (wxq (k.1, (k.2, (v.2.1, v.2.2))) v.1) fun r41_ =>
 .c (Int) (wxr (k.1, (k.2, (r41_, v.2.2))) v.2.1) fun r53_ =>
 .t (decide (r53_ < r41_))
 (.l (.inr (r53_, v.2.2)))
 (.g (inR r53_ (length v.2.2.1)) <|
 .g (decide ((toNat r53_) < length v.2.2.1) && decide ((getD v.2.2.1 (toNat r53_) 0) < length v.2.2.2)) <|
 .g (inR r41_ (length v.2.2.1)) <|
 .g (decide ((toNat r41_) < length v.2.2.1) && decide ((getD v.2.2.1 (toNat r41_) 0) < length v.2.2.2)) <|
 .g (inR r41_ (length v.2.2.1)) <|
 .g (decide ((toNat r41_) < length v.2.2.1)) <|
 .g (inR r53_ (length (set v.2.2.1 (toNat r41_) (getD v.2.2.1 (toNat r53_) 0)))) <|
 .g (decide ((toNat r53_) < length (set v.2.2.1 (toNat r41_) (getD v.2.2.1 (toNat r53_) 0)))) <|
 .l (.inl ((wrap .i64 (r41_ + 1)), ((wrap .i64 (r53_ - 1)), ((set (set v.2.2.1 (toNat r41_) (getD v.2.2.1 (toNat r53_) 0)) (toNat r53_) (getD v.2.2.1 (toNat r41_) 0)), v.2.2.2)))))
noncomputable def wxs (k : Int × ((HL [y1, y1] → Option (Int)))) (v : Int × (Int × ((List Nat) × Y2))) : Option (Int × ((List Nat) × Y2)) := iter (fun v => (wrf k v).ev) v
noncomputable def wabg : LD := ⟨{ acts := [], S := { slots := [0, 1, 4, 12, 13], sh := (yj [.arr 64, .dat yi, .clo [y1, y1] yi, .dat yi, .dat yi]), obs := [(64, .perm 24 3 yi)] } }, [(4, { acts := [], S := { slots := [0, 1, 13], sh := (yj [.arr 64, .dat yi, .dat yi]), obs := [(64, .perm 24 3 yi)] } })], (yh [] .nil), Int × ((HL [y1, y1] → Option (Int))), Int × (Int × ((List Nat) × Y2)), Int × ((List Nat) × Y2), fun k v => (((), (k.1, (k.2, (v.1, (v.2.1, ()))))), (v.2.2, ())), fun t => (t.1.2.1, t.1.2.2.1), fun t => (t.1.2.2.2.1, (t.1.2.2.2.2.1, t.2.1)), wrf, fun k r => .l (.exit 4 (wal ({ slots := [0, 1, 13], sh := (yj [.arr 64, .dat yi, .dat yi]), obs := [(64, .perm 24 3 yi)] }) (((), (k.1, (r.1, ()))), (r.2, ()))))⟩
noncomputable def wasz (a2_ : Int) (a3_ : Int) (a4_ : Int) (a5_ : (HL [y1, y1] → Option (Int))) (a1_ : (List Nat) × Y2) : Tr (Int × (Bool × ((List Nat) × Y2))) :=
 .g (inR a4_ (length a1_.1)) <|
 .g (decide ((toNat a4_) < length a1_.1) && decide ((getD a1_.1 (toNat a4_) 0) < length a1_.2)) <|
 .g (inR a2_ (length a1_.1)) <|
 .g (decide ((toNat a2_) < length a1_.1) && decide ((getD a1_.1 (toNat a2_) 0) < length a1_.2)) <|
 .g (inR a2_ (length a1_.1)) <|
 .g (decide ((toNat a2_) < length a1_.1)) <|
 .g (inR a4_ (length (set a1_.1 (toNat a2_) (getD a1_.1 (toNat a4_) 0)))) <|
 .g (decide ((toNat a4_) < length (set a1_.1 (toNat a2_) (getD a1_.1 (toNat a4_) 0)))) <|
 .c (Int) (wxo (a2_, (a5_, ((wrap .i64 (a3_ - 1)), ((set (set a1_.1 (toNat a2_) (getD a1_.1 (toNat a4_) 0)) (toNat a4_) (getD a1_.1 (toNat a2_) 0)), a1_.2)))) (wrap .i64 (a2_ + 1))) fun r12_ =>
 .c (Int) (wxp (a2_, (a5_, (r12_, ((set (set a1_.1 (toNat a2_) (getD a1_.1 (toNat a4_) 0)) (toNat a4_) (getD a1_.1 (toNat a2_) 0)), a1_.2)))) (wrap .i64 (a3_ - 1))) fun r24_ =>
 .t (decide (r24_ < r12_))
 (.g (inR a2_ (length (set (set a1_.1 (toNat a2_) (getD a1_.1 (toNat a4_) 0)) (toNat a4_) (getD a1_.1 (toNat a2_) 0)))) <|
 .g (decide ((toNat a2_) < length (set (set a1_.1 (toNat a2_) (getD a1_.1 (toNat a4_) 0)) (toNat a4_) (getD a1_.1 (toNat a2_) 0))) && decide ((getD (set (set a1_.1 (toNat a2_) (getD a1_.1 (toNat a4_) 0)) (toNat a4_) (getD a1_.1 (toNat a2_) 0)) (toNat a2_) 0) < length a1_.2)) <|
 .g (inR r24_ (length (set (set a1_.1 (toNat a2_) (getD a1_.1 (toNat a4_) 0)) (toNat a4_) (getD a1_.1 (toNat a2_) 0)))) <|
 .g (decide ((toNat r24_) < length (set (set a1_.1 (toNat a2_) (getD a1_.1 (toNat a4_) 0)) (toNat a4_) (getD a1_.1 (toNat a2_) 0))) && decide ((getD (set (set a1_.1 (toNat a2_) (getD a1_.1 (toNat a4_) 0)) (toNat a4_) (getD a1_.1 (toNat a2_) 0)) (toNat r24_) 0) < length a1_.2)) <|
 .g (inR r24_ (length (set (set a1_.1 (toNat a2_) (getD a1_.1 (toNat a4_) 0)) (toNat a4_) (getD a1_.1 (toNat a2_) 0)))) <|
 .g (decide ((toNat r24_) < length (set (set a1_.1 (toNat a2_) (getD a1_.1 (toNat a4_) 0)) (toNat a4_) (getD a1_.1 (toNat a2_) 0)))) <|
 .g (inR a2_ (length (set (set (set a1_.1 (toNat a2_) (getD a1_.1 (toNat a4_) 0)) (toNat a4_) (getD a1_.1 (toNat a2_) 0)) (toNat r24_) (getD (set (set a1_.1 (toNat a2_) (getD a1_.1 (toNat a4_) 0)) (toNat a4_) (getD a1_.1 (toNat a2_) 0)) (toNat a2_) 0)))) <|
 .g (decide ((toNat a2_) < length (set (set (set a1_.1 (toNat a2_) (getD a1_.1 (toNat a4_) 0)) (toNat a4_) (getD a1_.1 (toNat a2_) 0)) (toNat r24_) (getD (set (set a1_.1 (toNat a2_) (getD a1_.1 (toNat a4_) 0)) (toNat a4_) (getD a1_.1 (toNat a2_) 0)) (toNat a2_) 0)))) <|
 .l (r24_, (true, ((set (set (set (set a1_.1 (toNat a2_) (getD a1_.1 (toNat a4_) 0)) (toNat a4_) (getD a1_.1 (toNat a2_) 0)) (toNat r24_) (getD (set (set a1_.1 (toNat a2_) (getD a1_.1 (toNat a4_) 0)) (toNat a4_) (getD a1_.1 (toNat a2_) 0)) (toNat a2_) 0)) (toNat a2_) (getD (set (set a1_.1 (toNat a2_) (getD a1_.1 (toNat a4_) 0)) (toNat a4_) (getD a1_.1 (toNat a2_) 0)) (toNat r24_) 0)), a1_.2))))
 (.g (inR r24_ (length (set (set a1_.1 (toNat a2_) (getD a1_.1 (toNat a4_) 0)) (toNat a4_) (getD a1_.1 (toNat a2_) 0)))) <|
 .g (decide ((toNat r24_) < length (set (set a1_.1 (toNat a2_) (getD a1_.1 (toNat a4_) 0)) (toNat a4_) (getD a1_.1 (toNat a2_) 0))) && decide ((getD (set (set a1_.1 (toNat a2_) (getD a1_.1 (toNat a4_) 0)) (toNat a4_) (getD a1_.1 (toNat a2_) 0)) (toNat r24_) 0) < length a1_.2)) <|
 .g (inR r12_ (length (set (set a1_.1 (toNat a2_) (getD a1_.1 (toNat a4_) 0)) (toNat a4_) (getD a1_.1 (toNat a2_) 0)))) <|
 .g (decide ((toNat r12_) < length (set (set a1_.1 (toNat a2_) (getD a1_.1 (toNat a4_) 0)) (toNat a4_) (getD a1_.1 (toNat a2_) 0))) && decide ((getD (set (set a1_.1 (toNat a2_) (getD a1_.1 (toNat a4_) 0)) (toNat a4_) (getD a1_.1 (toNat a2_) 0)) (toNat r12_) 0) < length a1_.2)) <|
 .g (inR r12_ (length (set (set a1_.1 (toNat a2_) (getD a1_.1 (toNat a4_) 0)) (toNat a4_) (getD a1_.1 (toNat a2_) 0)))) <|
 .g (decide ((toNat r12_) < length (set (set a1_.1 (toNat a2_) (getD a1_.1 (toNat a4_) 0)) (toNat a4_) (getD a1_.1 (toNat a2_) 0)))) <|
 .g (inR r24_ (length (set (set (set a1_.1 (toNat a2_) (getD a1_.1 (toNat a4_) 0)) (toNat a4_) (getD a1_.1 (toNat a2_) 0)) (toNat r12_) (getD (set (set a1_.1 (toNat a2_) (getD a1_.1 (toNat a4_) 0)) (toNat a4_) (getD a1_.1 (toNat a2_) 0)) (toNat r24_) 0)))) <|
 .g (decide ((toNat r24_) < length (set (set (set a1_.1 (toNat a2_) (getD a1_.1 (toNat a4_) 0)) (toNat a4_) (getD a1_.1 (toNat a2_) 0)) (toNat r12_) (getD (set (set a1_.1 (toNat a2_) (getD a1_.1 (toNat a4_) 0)) (toNat a4_) (getD a1_.1 (toNat a2_) 0)) (toNat r24_) 0)))) <|
 .c (Int × ((List Nat) × Y2)) (wxs (a2_, a5_) ((wrap .i64 (r12_ + 1)), ((wrap .i64 (r24_ - 1)), ((set (set (set (set a1_.1 (toNat a2_) (getD a1_.1 (toNat a4_) 0)) (toNat a4_) (getD a1_.1 (toNat a2_) 0)) (toNat r12_) (getD (set (set a1_.1 (toNat a2_) (getD a1_.1 (toNat a4_) 0)) (toNat a4_) (getD a1_.1 (toNat a2_) 0)) (toNat r24_) 0)) (toNat r24_) (getD (set (set a1_.1 (toNat a2_) (getD a1_.1 (toNat a4_) 0)) (toNat a4_) (getD a1_.1 (toNat a2_) 0)) (toNat r12_) 0)), a1_.2)))) fun r57_ =>
 .g (inR a2_ (length r57_.2.1)) <|
 .g (decide ((toNat a2_) < length r57_.2.1) && decide ((getD r57_.2.1 (toNat a2_) 0) < length r57_.2.2)) <|
 .g (inR r57_.1 (length r57_.2.1)) <|
 .g (decide ((toNat r57_.1) < length r57_.2.1) && decide ((getD r57_.2.1 (toNat r57_.1) 0) < length r57_.2.2)) <|
 .g (inR r57_.1 (length r57_.2.1)) <|
 .g (decide ((toNat r57_.1) < length r57_.2.1)) <|
 .g (inR a2_ (length (set r57_.2.1 (toNat r57_.1) (getD r57_.2.1 (toNat a2_) 0)))) <|
 .g (decide ((toNat a2_) < length (set r57_.2.1 (toNat r57_.1) (getD r57_.2.1 (toNat a2_) 0)))) <|
 .l (r57_.1, (false, ((set (set r57_.2.1 (toNat r57_.1) (getD r57_.2.1 (toNat a2_) 0)) (toNat a2_) (getD r57_.2.1 (toNat r57_.1) 0)), r57_.2.2))))
noncomputable def whw (a2_ : Int) (a3_ : Int) (a4_ : Int) (a5_ : (HL [y1, y1] → Option (Int))) (a1_ : (List Nat) × Y2) : Option (Int × (Bool × ((List Nat) × Y2))) := (wasz a2_ a3_ a4_ a5_ a1_).ev
noncomputable def wbwp : RetK := { acts := [], res := [.tmp 10, .tmp 11], sh := (yj [.dat yi, .dat .bool]), obs := [(64, .perm 24 3 yi)], pins := [(0, 0, 64)] }
noncomputable def wbcv : FD := yd (yj [.arr 64, .dat yi, .dat yi, .dat yi, .clo [y1, y1] yi]) [(64, .perm 24 3 yi)] [.arg 0] (Int × (Bool × ((List Nat) × Y2))) (fun x => whw x.1.2.1 x.1.2.2.1 x.1.2.2.2.1 x.1.2.2.2.2.1 x.2.1) (fun r => ([.dat yi r.1, .dat .bool r.2.1], [(64, .perm false 24 3 yi r.2.2.1 r.2.2.2)]))
noncomputable def wxt : Env := wab []
noncomputable def wxu : List (Nat × LD) := [(0, wabc), (2, wabd), (6, wabe), (8, wabf), (4, wabg)]
noncomputable def wlh : Code := (f258.body).getD .skip
noncomputable def wrg (rec_ : (Int) → (Int) → (Int) → ((HL [y1, y1] → Option (Int))) → ((List Nat) × Y2) → Option ((List Nat) × Y2)) (k : (HL [y1, y1] → Option (Int))) (v : Int × (Int × (Int × (Bool × (Bool × ((List Nat) × Y2)))))) : Tr ((Int × (Int × (Int × (Bool × (Bool × ((List Nat) × Y2)))))) ⊕ ((List Nat) × Y2)) :=
 .t (decide ((wrap .i64 (v.2.1 - v.1)) ≤ (12 : Int)))
 (.c ((List Nat) × Y2) (wask v.1 v.2.1 k v.2.2.2.2.2) fun r8_ =>
 .l (.inr r8_))
 (.t (v.2.2.1 == 0)
 (.f)
 (.t (!v.2.2.2.1)
 (.c ((List Nat) × Y2) (wass v.1 v.2.1 k v.2.2.2.2.2) fun r9_ =>
 .c (Int × Int) (wakc (wbd r9_.1 r9_.2) v.1 v.2.1 k) fun r10_ =>
 .t (r10_.2 == 2)
 (.f)
 (.t v.2.2.2.1
 (.t v.2.2.2.2.1
 (.t (r10_.2 == 1)
 (.f)
 (.t (decide (0 < v.1))
 (.g (inR (wrap .i64 (v.1 - 1)) (length r9_.1)) <|
 .g (decide ((toNat (wrap .i64 (v.1 - 1))) < length r9_.1) && decide ((getD r9_.1 (toNat (wrap .i64 (v.1 - 1))) 0) < length r9_.2)) <|
 .g (inR r10_.1 (length r9_.1)) <|
 .g (decide ((toNat r10_.1) < length r9_.1) && decide ((getD r9_.1 (toNat r10_.1) 0) < length r9_.2)) <|
 .c (Int) (k ((getD r9_.2 (getD r9_.1 (toNat (wrap .i64 (v.1 - 1))) 0) ([] : Y1)), ((getD r9_.2 (getD r9_.1 (toNat r10_.1) 0) ([] : Y1)), ()))) fun r11_ =>
 .t (!(decide (r11_ < 0)))
 (.f)
 (.c (Int × (Bool × ((List Nat) × Y2))) (whw v.1 v.2.1 r10_.1 k r9_) fun r12_ =>
 .g (!decide ((8 : Int) = 0)) <|
 .t (decide ((wrap .i64 (r12_.1 - v.1)) < (wrap .i64 (v.2.1 - r12_.1))))
 (.c ((List Nat) × Y2) (rec_ v.1 r12_.1 (wrap .i64 (v.2.2.1 - 1)) k r12_.2.2) fun r13_ =>
 .l (.inl ((wrap .i64 (r12_.1 + 1)), (v.2.1, ((wrap .i64 (v.2.2.1 - 1)), ((decide ((wrap .i64 (Int.tdiv (wrap .i64 (v.2.1 - v.1)) (8 : Int))) ≤ (wrap .i64 (r12_.1 - v.1)))), (r12_.2.1, r13_)))))))
 (.c ((List Nat) × Y2) (rec_ (wrap .i64 (r12_.1 + 1)) v.2.1 (wrap .i64 (v.2.2.1 - 1)) k r12_.2.2) fun r14_ =>
 .l (.inl (v.1, (r12_.1, ((wrap .i64 (v.2.2.1 - 1)), ((decide ((wrap .i64 (Int.tdiv (wrap .i64 (v.2.1 - v.1)) (8 : Int))) ≤ (wrap .i64 (v.2.1 - r12_.1)))), (r12_.2.1, r14_)))))))))
 (.c (Int × (Bool × ((List Nat) × Y2))) (whw v.1 v.2.1 r10_.1 k r9_) fun r15_ =>
 .g (!decide ((8 : Int) = 0)) <|
 .t (decide ((wrap .i64 (r15_.1 - v.1)) < (wrap .i64 (v.2.1 - r15_.1))))
 (.c ((List Nat) × Y2) (rec_ v.1 r15_.1 (wrap .i64 (v.2.2.1 - 1)) k r15_.2.2) fun r16_ =>
 .l (.inl ((wrap .i64 (r15_.1 + 1)), (v.2.1, ((wrap .i64 (v.2.2.1 - 1)), ((decide ((wrap .i64 (Int.tdiv (wrap .i64 (v.2.1 - v.1)) (8 : Int))) ≤ (wrap .i64 (r15_.1 - v.1)))), (r15_.2.1, r16_)))))))
 (.c ((List Nat) × Y2) (rec_ (wrap .i64 (r15_.1 + 1)) v.2.1 (wrap .i64 (v.2.2.1 - 1)) k r15_.2.2) fun r17_ =>
 .l (.inl (v.1, (r15_.1, ((wrap .i64 (v.2.2.1 - 1)), ((decide ((wrap .i64 (Int.tdiv (wrap .i64 (v.2.1 - v.1)) (8 : Int))) ≤ (wrap .i64 (v.2.1 - r15_.1)))), (r15_.2.1, r17_))))))))))
 (.t (decide (0 < v.1))
 (.g (inR (wrap .i64 (v.1 - 1)) (length r9_.1)) <|
 .g (decide ((toNat (wrap .i64 (v.1 - 1))) < length r9_.1) && decide ((getD r9_.1 (toNat (wrap .i64 (v.1 - 1))) 0) < length r9_.2)) <|
 .g (inR r10_.1 (length r9_.1)) <|
 .g (decide ((toNat r10_.1) < length r9_.1) && decide ((getD r9_.1 (toNat r10_.1) 0) < length r9_.2)) <|
 .c (Int) (k ((getD r9_.2 (getD r9_.1 (toNat (wrap .i64 (v.1 - 1))) 0) ([] : Y1)), ((getD r9_.2 (getD r9_.1 (toNat r10_.1) 0) ([] : Y1)), ()))) fun r18_ =>
 .t (!(decide (r18_ < 0)))
 (.f)
 (.c (Int × (Bool × ((List Nat) × Y2))) (whw v.1 v.2.1 r10_.1 k r9_) fun r19_ =>
 .g (!decide ((8 : Int) = 0)) <|
 .t (decide ((wrap .i64 (r19_.1 - v.1)) < (wrap .i64 (v.2.1 - r19_.1))))
 (.c ((List Nat) × Y2) (rec_ v.1 r19_.1 (wrap .i64 (v.2.2.1 - 1)) k r19_.2.2) fun r20_ =>
 .l (.inl ((wrap .i64 (r19_.1 + 1)), (v.2.1, ((wrap .i64 (v.2.2.1 - 1)), ((decide ((wrap .i64 (Int.tdiv (wrap .i64 (v.2.1 - v.1)) (8 : Int))) ≤ (wrap .i64 (r19_.1 - v.1)))), (r19_.2.1, r20_)))))))
 (.c ((List Nat) × Y2) (rec_ (wrap .i64 (r19_.1 + 1)) v.2.1 (wrap .i64 (v.2.2.1 - 1)) k r19_.2.2) fun r21_ =>
 .l (.inl (v.1, (r19_.1, ((wrap .i64 (v.2.2.1 - 1)), ((decide ((wrap .i64 (Int.tdiv (wrap .i64 (v.2.1 - v.1)) (8 : Int))) ≤ (wrap .i64 (v.2.1 - r19_.1)))), (r19_.2.1, r21_)))))))))
 (.c (Int × (Bool × ((List Nat) × Y2))) (whw v.1 v.2.1 r10_.1 k r9_) fun r22_ =>
 .g (!decide ((8 : Int) = 0)) <|
 .t (decide ((wrap .i64 (r22_.1 - v.1)) < (wrap .i64 (v.2.1 - r22_.1))))
 (.c ((List Nat) × Y2) (rec_ v.1 r22_.1 (wrap .i64 (v.2.2.1 - 1)) k r22_.2.2) fun r23_ =>
 .l (.inl ((wrap .i64 (r22_.1 + 1)), (v.2.1, ((wrap .i64 (v.2.2.1 - 1)), ((decide ((wrap .i64 (Int.tdiv (wrap .i64 (v.2.1 - v.1)) (8 : Int))) ≤ (wrap .i64 (r22_.1 - v.1)))), (r22_.2.1, r23_)))))))
 (.c ((List Nat) × Y2) (rec_ (wrap .i64 (r22_.1 + 1)) v.2.1 (wrap .i64 (v.2.2.1 - 1)) k r22_.2.2) fun r24_ =>
 .l (.inl (v.1, (r22_.1, ((wrap .i64 (v.2.2.1 - 1)), ((decide ((wrap .i64 (Int.tdiv (wrap .i64 (v.2.1 - v.1)) (8 : Int))) ≤ (wrap .i64 (v.2.1 - r22_.1)))), (r22_.2.1, r24_))))))))))
 (.t (decide (0 < v.1))
 (.g (inR (wrap .i64 (v.1 - 1)) (length r9_.1)) <|
 .g (decide ((toNat (wrap .i64 (v.1 - 1))) < length r9_.1) && decide ((getD r9_.1 (toNat (wrap .i64 (v.1 - 1))) 0) < length r9_.2)) <|
 .g (inR r10_.1 (length r9_.1)) <|
 .g (decide ((toNat r10_.1) < length r9_.1) && decide ((getD r9_.1 (toNat r10_.1) 0) < length r9_.2)) <|
 .c (Int) (k ((getD r9_.2 (getD r9_.1 (toNat (wrap .i64 (v.1 - 1))) 0) ([] : Y1)), ((getD r9_.2 (getD r9_.1 (toNat r10_.1) 0) ([] : Y1)), ()))) fun r25_ =>
 .t (!(decide (r25_ < 0)))
 (.f)
 (.c (Int × (Bool × ((List Nat) × Y2))) (whw v.1 v.2.1 r10_.1 k r9_) fun r26_ =>
 .g (!decide ((8 : Int) = 0)) <|
 .t (decide ((wrap .i64 (r26_.1 - v.1)) < (wrap .i64 (v.2.1 - r26_.1))))
 (.c ((List Nat) × Y2) (rec_ v.1 r26_.1 (wrap .i64 (v.2.2.1 - 1)) k r26_.2.2) fun r27_ =>
 .l (.inl ((wrap .i64 (r26_.1 + 1)), (v.2.1, ((wrap .i64 (v.2.2.1 - 1)), ((decide ((wrap .i64 (Int.tdiv (wrap .i64 (v.2.1 - v.1)) (8 : Int))) ≤ (wrap .i64 (r26_.1 - v.1)))), (r26_.2.1, r27_)))))))
 (.c ((List Nat) × Y2) (rec_ (wrap .i64 (r26_.1 + 1)) v.2.1 (wrap .i64 (v.2.2.1 - 1)) k r26_.2.2) fun r28_ =>
 .l (.inl (v.1, (r26_.1, ((wrap .i64 (v.2.2.1 - 1)), ((decide ((wrap .i64 (Int.tdiv (wrap .i64 (v.2.1 - v.1)) (8 : Int))) ≤ (wrap .i64 (v.2.1 - r26_.1)))), (r26_.2.1, r28_)))))))))
 (.c (Int × (Bool × ((List Nat) × Y2))) (whw v.1 v.2.1 r10_.1 k r9_) fun r29_ =>
 .g (!decide ((8 : Int) = 0)) <|
 .t (decide ((wrap .i64 (r29_.1 - v.1)) < (wrap .i64 (v.2.1 - r29_.1))))
 (.c ((List Nat) × Y2) (rec_ v.1 r29_.1 (wrap .i64 (v.2.2.1 - 1)) k r29_.2.2) fun r30_ =>
 .l (.inl ((wrap .i64 (r29_.1 + 1)), (v.2.1, ((wrap .i64 (v.2.2.1 - 1)), ((decide ((wrap .i64 (Int.tdiv (wrap .i64 (v.2.1 - v.1)) (8 : Int))) ≤ (wrap .i64 (r29_.1 - v.1)))), (r29_.2.1, r30_)))))))
 (.c ((List Nat) × Y2) (rec_ (wrap .i64 (r29_.1 + 1)) v.2.1 (wrap .i64 (v.2.2.1 - 1)) k r29_.2.2) fun r31_ =>
 .l (.inl (v.1, (r29_.1, ((wrap .i64 (v.2.2.1 - 1)), ((decide ((wrap .i64 (Int.tdiv (wrap .i64 (v.2.1 - v.1)) (8 : Int))) ≤ (wrap .i64 (v.2.1 - r29_.1)))), (r29_.2.1, r31_)))))))))))
 (.c (Int × Int) (wakc (wbd v.2.2.2.2.2.1 v.2.2.2.2.2.2) v.1 v.2.1 k) fun r32_ =>
 .t (r32_.2 == 2)
 (.f)
 (.t v.2.2.2.1
 (.t v.2.2.2.2.1
 (.t (r32_.2 == 1)
 (.f)
 (.t (decide (0 < v.1))
 (.g (inR (wrap .i64 (v.1 - 1)) (length v.2.2.2.2.2.1)) <|
 .g (decide ((toNat (wrap .i64 (v.1 - 1))) < length v.2.2.2.2.2.1) && decide ((getD v.2.2.2.2.2.1 (toNat (wrap .i64 (v.1 - 1))) 0) < length v.2.2.2.2.2.2)) <|
 .g (inR r32_.1 (length v.2.2.2.2.2.1)) <|
 .g (decide ((toNat r32_.1) < length v.2.2.2.2.2.1) && decide ((getD v.2.2.2.2.2.1 (toNat r32_.1) 0) < length v.2.2.2.2.2.2)) <|
 .c (Int) (k ((getD v.2.2.2.2.2.2 (getD v.2.2.2.2.2.1 (toNat (wrap .i64 (v.1 - 1))) 0) ([] : Y1)), ((getD v.2.2.2.2.2.2 (getD v.2.2.2.2.2.1 (toNat r32_.1) 0) ([] : Y1)), ()))) fun r33_ =>
 .t (!(decide (r33_ < 0)))
 (.f)
 (.c (Int × (Bool × ((List Nat) × Y2))) (whw v.1 v.2.1 r32_.1 k v.2.2.2.2.2) fun r34_ =>
 .g (!decide ((8 : Int) = 0)) <|
 .t (decide ((wrap .i64 (r34_.1 - v.1)) < (wrap .i64 (v.2.1 - r34_.1))))
 (.c ((List Nat) × Y2) (rec_ v.1 r34_.1 v.2.2.1 k r34_.2.2) fun r35_ =>
 .l (.inl ((wrap .i64 (r34_.1 + 1)), (v.2.1, (v.2.2.1, ((decide ((wrap .i64 (Int.tdiv (wrap .i64 (v.2.1 - v.1)) (8 : Int))) ≤ (wrap .i64 (r34_.1 - v.1)))), (r34_.2.1, r35_)))))))
 (.c ((List Nat) × Y2) (rec_ (wrap .i64 (r34_.1 + 1)) v.2.1 v.2.2.1 k r34_.2.2) fun r36_ =>
 .l (.inl (v.1, (r34_.1, (v.2.2.1, ((decide ((wrap .i64 (Int.tdiv (wrap .i64 (v.2.1 - v.1)) (8 : Int))) ≤ (wrap .i64 (v.2.1 - r34_.1)))), (r34_.2.1, r36_)))))))))
 (.c (Int × (Bool × ((List Nat) × Y2))) (whw v.1 v.2.1 r32_.1 k v.2.2.2.2.2) fun r37_ =>
 .g (!decide ((8 : Int) = 0)) <|
 .t (decide ((wrap .i64 (r37_.1 - v.1)) < (wrap .i64 (v.2.1 - r37_.1))))
 (.c ((List Nat) × Y2) (rec_ v.1 r37_.1 v.2.2.1 k r37_.2.2) fun r38_ =>
 .l (.inl ((wrap .i64 (r37_.1 + 1)), (v.2.1, (v.2.2.1, ((decide ((wrap .i64 (Int.tdiv (wrap .i64 (v.2.1 - v.1)) (8 : Int))) ≤ (wrap .i64 (r37_.1 - v.1)))), (r37_.2.1, r38_)))))))
 (.c ((List Nat) × Y2) (rec_ (wrap .i64 (r37_.1 + 1)) v.2.1 v.2.2.1 k r37_.2.2) fun r39_ =>
 .l (.inl (v.1, (r37_.1, (v.2.2.1, ((decide ((wrap .i64 (Int.tdiv (wrap .i64 (v.2.1 - v.1)) (8 : Int))) ≤ (wrap .i64 (v.2.1 - r37_.1)))), (r37_.2.1, r39_))))))))))
 (.t (decide (0 < v.1))
 (.g (inR (wrap .i64 (v.1 - 1)) (length v.2.2.2.2.2.1)) <|
 .g (decide ((toNat (wrap .i64 (v.1 - 1))) < length v.2.2.2.2.2.1) && decide ((getD v.2.2.2.2.2.1 (toNat (wrap .i64 (v.1 - 1))) 0) < length v.2.2.2.2.2.2)) <|
 .g (inR r32_.1 (length v.2.2.2.2.2.1)) <|
 .g (decide ((toNat r32_.1) < length v.2.2.2.2.2.1) && decide ((getD v.2.2.2.2.2.1 (toNat r32_.1) 0) < length v.2.2.2.2.2.2)) <|
 .c (Int) (k ((getD v.2.2.2.2.2.2 (getD v.2.2.2.2.2.1 (toNat (wrap .i64 (v.1 - 1))) 0) ([] : Y1)), ((getD v.2.2.2.2.2.2 (getD v.2.2.2.2.2.1 (toNat r32_.1) 0) ([] : Y1)), ()))) fun r40_ =>
 .t (!(decide (r40_ < 0)))
 (.f)
 (.c (Int × (Bool × ((List Nat) × Y2))) (whw v.1 v.2.1 r32_.1 k v.2.2.2.2.2) fun r41_ =>
 .g (!decide ((8 : Int) = 0)) <|
 .t (decide ((wrap .i64 (r41_.1 - v.1)) < (wrap .i64 (v.2.1 - r41_.1))))
 (.c ((List Nat) × Y2) (rec_ v.1 r41_.1 v.2.2.1 k r41_.2.2) fun r42_ =>
 .l (.inl ((wrap .i64 (r41_.1 + 1)), (v.2.1, (v.2.2.1, ((decide ((wrap .i64 (Int.tdiv (wrap .i64 (v.2.1 - v.1)) (8 : Int))) ≤ (wrap .i64 (r41_.1 - v.1)))), (r41_.2.1, r42_)))))))
 (.c ((List Nat) × Y2) (rec_ (wrap .i64 (r41_.1 + 1)) v.2.1 v.2.2.1 k r41_.2.2) fun r43_ =>
 .l (.inl (v.1, (r41_.1, (v.2.2.1, ((decide ((wrap .i64 (Int.tdiv (wrap .i64 (v.2.1 - v.1)) (8 : Int))) ≤ (wrap .i64 (v.2.1 - r41_.1)))), (r41_.2.1, r43_)))))))))
 (.c (Int × (Bool × ((List Nat) × Y2))) (whw v.1 v.2.1 r32_.1 k v.2.2.2.2.2) fun r44_ =>
 .g (!decide ((8 : Int) = 0)) <|
 .t (decide ((wrap .i64 (r44_.1 - v.1)) < (wrap .i64 (v.2.1 - r44_.1))))
 (.c ((List Nat) × Y2) (rec_ v.1 r44_.1 v.2.2.1 k r44_.2.2) fun r45_ =>
 .l (.inl ((wrap .i64 (r44_.1 + 1)), (v.2.1, (v.2.2.1, ((decide ((wrap .i64 (Int.tdiv (wrap .i64 (v.2.1 - v.1)) (8 : Int))) ≤ (wrap .i64 (r44_.1 - v.1)))), (r44_.2.1, r45_)))))))
 (.c ((List Nat) × Y2) (rec_ (wrap .i64 (r44_.1 + 1)) v.2.1 v.2.2.1 k r44_.2.2) fun r46_ =>
 .l (.inl (v.1, (r44_.1, (v.2.2.1, ((decide ((wrap .i64 (Int.tdiv (wrap .i64 (v.2.1 - v.1)) (8 : Int))) ≤ (wrap .i64 (v.2.1 - r44_.1)))), (r44_.2.1, r46_))))))))))
 (.t (decide (0 < v.1))
 (.g (inR (wrap .i64 (v.1 - 1)) (length v.2.2.2.2.2.1)) <|
 .g (decide ((toNat (wrap .i64 (v.1 - 1))) < length v.2.2.2.2.2.1) && decide ((getD v.2.2.2.2.2.1 (toNat (wrap .i64 (v.1 - 1))) 0) < length v.2.2.2.2.2.2)) <|
 .g (inR r32_.1 (length v.2.2.2.2.2.1)) <|
 .g (decide ((toNat r32_.1) < length v.2.2.2.2.2.1) && decide ((getD v.2.2.2.2.2.1 (toNat r32_.1) 0) < length v.2.2.2.2.2.2)) <|
 .c (Int) (k ((getD v.2.2.2.2.2.2 (getD v.2.2.2.2.2.1 (toNat (wrap .i64 (v.1 - 1))) 0) ([] : Y1)), ((getD v.2.2.2.2.2.2 (getD v.2.2.2.2.2.1 (toNat r32_.1) 0) ([] : Y1)), ()))) fun r47_ =>
 .t (!(decide (r47_ < 0)))
 (.f)
 (.c (Int × (Bool × ((List Nat) × Y2))) (whw v.1 v.2.1 r32_.1 k v.2.2.2.2.2) fun r48_ =>
 .g (!decide ((8 : Int) = 0)) <|
 .t (decide ((wrap .i64 (r48_.1 - v.1)) < (wrap .i64 (v.2.1 - r48_.1))))
 (.c ((List Nat) × Y2) (rec_ v.1 r48_.1 v.2.2.1 k r48_.2.2) fun r49_ =>
 .l (.inl ((wrap .i64 (r48_.1 + 1)), (v.2.1, (v.2.2.1, ((decide ((wrap .i64 (Int.tdiv (wrap .i64 (v.2.1 - v.1)) (8 : Int))) ≤ (wrap .i64 (r48_.1 - v.1)))), (r48_.2.1, r49_)))))))
 (.c ((List Nat) × Y2) (rec_ (wrap .i64 (r48_.1 + 1)) v.2.1 v.2.2.1 k r48_.2.2) fun r50_ =>
 .l (.inl (v.1, (r48_.1, (v.2.2.1, ((decide ((wrap .i64 (Int.tdiv (wrap .i64 (v.2.1 - v.1)) (8 : Int))) ≤ (wrap .i64 (v.2.1 - r48_.1)))), (r48_.2.1, r50_)))))))))
 (.c (Int × (Bool × ((List Nat) × Y2))) (whw v.1 v.2.1 r32_.1 k v.2.2.2.2.2) fun r51_ =>
 .g (!decide ((8 : Int) = 0)) <|
 .t (decide ((wrap .i64 (r51_.1 - v.1)) < (wrap .i64 (v.2.1 - r51_.1))))
 (.c ((List Nat) × Y2) (rec_ v.1 r51_.1 v.2.2.1 k r51_.2.2) fun r52_ =>
 .l (.inl ((wrap .i64 (r51_.1 + 1)), (v.2.1, (v.2.2.1, ((decide ((wrap .i64 (Int.tdiv (wrap .i64 (v.2.1 - v.1)) (8 : Int))) ≤ (wrap .i64 (r51_.1 - v.1)))), (r51_.2.1, r52_)))))))
 (.c ((List Nat) × Y2) (rec_ (wrap .i64 (r51_.1 + 1)) v.2.1 v.2.2.1 k r51_.2.2) fun r53_ =>
 .l (.inl (v.1, (r51_.1, (v.2.2.1, ((decide ((wrap .i64 (Int.tdiv (wrap .i64 (v.2.1 - v.1)) (8 : Int))) ≤ (wrap .i64 (v.2.1 - r51_.1)))), (r51_.2.1, r53_)))))))))))))
noncomputable def wxv (rec_ : (Int) → (Int) → (Int) → ((HL [y1, y1] → Option (Int))) → ((List Nat) × Y2) → Option ((List Nat) × Y2)) (k : (HL [y1, y1] → Option (Int))) (v : Int × (Int × (Int × (Bool × (Bool × ((List Nat) × Y2)))))) : Option ((List Nat) × Y2) := iter (fun v => (wrg rec_ k v).ev) v
noncomputable def wabh (rec_ : (Int) → (Int) → (Int) → ((HL [y1, y1] → Option (Int))) → ((List Nat) × Y2) → Option ((List Nat) × Y2)) : LD where
 head := { acts := [], S := { slots := [0, 1, 2, 3, 4, 10, 11], sh := (yj [.arr 64, .dat yi, .dat yi, .dat yi, .clo [y1, y1] yi, .dat .bool, .dat .bool]), obs := [(64, .perm 24 3 yi)] } }
 exits := []
 rets := { acts := [], S := { slots := [0], sh := (yj [.arr 64]), obs := [(64, .perm 24 3 yi)] } }
 K := (HL [y1, y1] → Option (Int))
 V := Int × (Int × (Int × (Bool × (Bool × ((List Nat) × Y2)))))
 R := (List Nat) × Y2
 join := fun k v => (((), (v.1, (v.2.1, (v.2.2.1, (k, (v.2.2.2.1, (v.2.2.2.2.1, ()))))))), (v.2.2.2.2.2, ()))
 sk := fun t => t.1.2.2.2.2.1
 sv := fun t => (t.1.2.1, (t.1.2.2.1, (t.1.2.2.2.1, (t.1.2.2.2.2.2.1, (t.1.2.2.2.2.2.2.1, t.2.1)))))
 step := wrg rec_
 leaf := fun _ r => .l (.ret (wal ({ slots := [0], sh := (yj [.arr 64]), obs := [(64, .perm 24 3 yi)] }) (((), ()), (r, ()))))
noncomputable def wata (rec_ : (Int) → (Int) → (Int) → ((HL [y1, y1] → Option (Int))) → ((List Nat) × Y2) → Option ((List Nat) × Y2)) (a2_ : Int) (a3_ : Int) (a4_ : Int) (a5_ : (HL [y1, y1] → Option (Int))) (a1_ : (List Nat) × Y2) : Tr ((List Nat) × Y2) :=
 .c ((List Nat) × Y2) (wxv rec_ a5_ (a2_, (a3_, (a4_, (true, (true, a1_)))))) fun r55_ =>
 .l r55_
noncomputable def wrh : Nat → (Int) → (Int) → (Int) → ((HL [y1, y1] → Option (Int))) → ((List Nat) × Y2) → Option ((List Nat) × Y2)
 | 0 => fun _ _ _ _ _ => none
 | n + 1 => fun a2_ a3_ a4_ a5_ a1_ => (wata (wrh n) a2_ a3_ a4_ a5_ a1_).ev
noncomputable def wbwq : RetK := { acts := [], res := [], sh := .nil, obs := [(64, .perm 24 3 yi)], pins := [(0, 0, 64)] }
noncomputable def wayz (rec_ : (Int) → (Int) → (Int) → ((HL [y1, y1] → Option (Int))) → ((List Nat) × Y2) → Option ((List Nat) × Y2)) : FD where
 A := (yj [.arr 64, .dat yi, .dat yi, .dat yi, .clo [y1, y1] yi])
 ins := [(64, .perm 24 3 yi)]
 lend := [.arg 0]
 R := (List Nat) × Y2
 F := fun x => rec_ x.1.2.1 x.1.2.2.1 x.1.2.2.2.1 x.1.2.2.2.2.1 x.2.1
 emb := fun r => ([], [(64, .perm false 24 3 yi r.1 r.2)])
noncomputable def wbcw (n : Nat) : FD := wayz (wrh n)
noncomputable def wbcx (rec_ : (Int) → (Int) → (Int) → ((HL [y1, y1] → Option (Int))) → ((List Nat) × Y2) → Option ((List Nat) × Y2)) : Env := wab [(251, wbco), (253, wbcp), (254, wbcu), (258, wbcv), (233, wayz rec_)]
noncomputable def wbcy (rec_ : (Int) → (Int) → (Int) → ((HL [y1, y1] → Option (Int))) → ((List Nat) × Y2) → Option ((List Nat) × Y2)) : List (Nat × LD) := [(0, wabh rec_)]
noncomputable def watb : Code := (f233.body).getD .skip
noncomputable def watc (a2_ : (HL [y1, y1] → Option (Int))) (a1_ : (List Nat) × Y2) : Tr ((List Nat) × Y2) :=
 .c (Int) (wxk (wrap .u64 ((length a1_.1 : Nat) : Int))) fun r1_ =>
 .c ((List Nat) × Y2) (wrh 1000000 (0 : Int) ((length a1_.1 : Nat) : Int) r1_ a2_ a1_) fun r2_ =>
 .l r2_
noncomputable def watd (a2_ : (HL [y1, y1] → Option (Int))) (a1_ : (List Nat) × Y2) : Option ((List Nat) × Y2) := (watc a2_ a1_).ev
noncomputable def wbwr : RetK := { acts := [], res := [], sh := .nil, obs := [(64, .perm 24 3 yi)], pins := [(0, 0, 64)] }
noncomputable def wate : FD := yd (yj [.arr 64, .clo [y1, y1] yi]) [(64, .perm 24 3 yi)] [.arg 0] ((List Nat) × Y2) (fun x => watd x.1.2.1 x.2.1) (fun r => ([], [(64, .perm false 24 3 yi r.1 r.2)]))
noncomputable def T_zd (a1_ : Int) : Tr (Bool) :=
 .l (a1_ != a1_)
noncomputable def F_zd (a1_ : Int) : Option (Bool) := (T_zd a1_).ev
noncomputable def K_zd : RetK := yr [.tmp 2] (yj [.dat .bool])
noncomputable def D_zd : FD := yd (yj [.dat yi]) [] [] Bool (fun x => F_zd x.1.1) (fun r => ([.dat .bool r], []))
noncomputable def T_za (a1_ : Int) (a2_ : Int) : Tr (Int) :=
 .c (Bool) (F_zd a1_) fun r1_ =>
 .c (Bool) (F_zd a2_) fun r2_ =>
 .t r1_
 (.t r2_
 (.l (0 : Int))
 (.l (-1 : Int)))
 (.t r2_
 (.l (1 : Int))
 (.t (decide (a1_ < a2_))
 (.l (-1 : Int))
 (.t (decide (a2_ < a1_))
 (.l (1 : Int))
 (.l (0 : Int)))))
noncomputable def F_za (a1_ : Int) (a2_ : Int) : Option (Int) := (T_za a1_ a2_).ev
noncomputable def K_za : RetK := yr [.tmp 4] (yj [.dat yi])
noncomputable def D_za : FD := yd (yj [.dat yi, .dat yi]) [] [] Int (fun x => F_za x.1.1 x.1.2.1) (fun r => ([.dat yi r], []))
noncomputable def wri (k : Y1 × (Y1 × (Y1 × Int))) (v : Int) : Tr ((Int) ⊕ ((Unit) ⊕ (Int))) :=
 .t (decide (v < k.2.2.2))
 (.g (inR v (length k.2.2.1)) <|
 .t (decide (((length k.2.1 : Nat) : Int) ≤ v))
 (.l (.inr (.inr (1 : Int))))
 (.g (inR v (length k.2.1)) <|
 .c (Int) (F_za (getD k.2.2.1 (toNat v) 0) (getD k.2.1 (toNat v) 0)) fun r6_ =>
 .t (r6_ != (0 : Int))
 (.l (.inr (.inr r6_)))
 (.l (.inl (wrap .i64 (v + 1))))))
 (.l (.inr (.inl ())))
noncomputable def wxw (k : Y1 × (Y1 × (Y1 × Int))) (v : Int) : Option ((Unit) ⊕ (Int)) := iter (fun v => (wri k v).ev) v
noncomputable def wabi : LD := ⟨(yh [0, 1, 9, 10, 11] (yj [.dat y1, .dat y1, .dat y1, .dat yi, .dat yi])), [(0, (yh [0, 1] (yj [.dat y1, .dat y1])))], (yh [4] (yj [.dat yi])), Y1 × (Y1 × (Y1 × Int)), Int, (Unit) ⊕ (Int), fun k v => ((k.1, (k.2.1, (k.2.2.1, (k.2.2.2, (v, ()))))), ()), fun t => (t.1.1, (t.1.2.1, (t.1.2.2.1, t.1.2.2.2.1))), fun t => t.1.2.2.2.2.1, wri, fun k r => .s (Unit) (Int) r (fun _ => .l (.exit 0 (wal ((ys [0, 1] (yj [.dat y1, .dat y1]))) ((k.1, (k.2.1, ())), ())))) (fun b => .l (.ret (wal ((ys [4] (yj [.dat yi]))) ((b, ()), ()))))⟩
noncomputable def watf (a1_ : Y1) (a2_ : Y1) : Tr (Int) :=
 .c ((Unit) ⊕ (Int)) (wxw (a1_, (a2_, (a1_, ((length a1_ : Nat) : Int)))) (0 : Int)) fun r10_ =>
 .s (Unit) (Int) r10_
 (fun _ => .t (decide (((length a1_ : Nat) : Int) < ((length a2_ : Nat) : Int)))
 (.l (-1 : Int))
 (.l (0 : Int)))
 (fun r12_ => .l r12_)
noncomputable def watg (a1_ : Y1) (a2_ : Y1) : Option (Int) := (watf a1_ a2_).ev
noncomputable def wbws : RetK := yr [.tmp 4] (yj [.dat yi])
noncomputable def wbcz : FD := yd (yj [.dat y1, .dat y1]) [] [] Int (fun x => watg x.1.1 x.1.2.1) (fun r => ([.dat yi r], []))
noncomputable def wbda : Env := wab [(182, D_za)]
noncomputable def wbdb : List (Nat × LD) := [(0, wabi)]
noncomputable def wath : Code := (f235.body).getD .skip
noncomputable def wabj (k : Int × (Y1 × Int)) (v : Int) : Tr ((Int) ⊕ ((Unit) ⊕ (Int))) :=
 .t (decide (v < k.2.2))
 (.g (inR v (length k.2.1)) <|
 .t ((getD k.2.1 (toNat v) 0) != k.1)
 (.l (.inr (.inr (getD k.2.1 (toNat v) 0))))
 (.l (.inl (wrap .i64 (v + 1)))))
 (.l (.inr (.inl ())))
noncomputable def wakd (k : Int × (Y1 × Int)) (v : Int) : Option ((Unit) ⊕ (Int)) := iter (fun v => (wabj k v).ev) v
noncomputable def wakf : LD := ⟨(yh [3, 6, 7, 8] (yj [.dat yi, .dat y1, .dat yi, .dat yi])), [(0, (yh [3] (yj [.dat yi])))], (yh [2] (yj [.dat yi])), Int × (Y1 × Int), Int, (Unit) ⊕ (Int), fun k v => ((k.1, (k.2.1, (k.2.2, (v, ())))), ()), fun t => (t.1.1, (t.1.2.1, t.1.2.2.1)), fun t => t.1.2.2.2.1, wabj, fun k r => .s (Unit) (Int) r (fun _ => .l (.exit 0 (wal ((ys [3] (yj [.dat yi]))) ((k.1, ()), ())))) (fun b => .l (.ret (wal ((ys [2] (yj [.dat yi]))) ((b, ()), ()))))⟩
noncomputable def T_zc (a1_ : Y1) : Tr (Int) :=
 .c ((Unit) ⊕ (Int)) (wakd ((0 : Int), (a1_, ((length a1_ : Nat) : Int))) (0 : Int)) fun r7_ =>
 .s (Unit) (Int) r7_
 (fun _ => .l (0 : Int))
 (fun r9_ => .l r9_)
noncomputable def F_zc (a1_ : Y1) : Option (Int) := (T_zc a1_).ev
noncomputable def K_zc : RetK := yr [.tmp 2] (yj [.dat yi])
noncomputable def D_zc : FD := yd (yj [.dat y1]) [] [] Int (fun x => F_zc x.1.1) (fun r => ([.dat yi r], []))
noncomputable def E_zc : Env := wab []
noncomputable def O_zc : List (Nat × LD) := [(0, wakf)]
noncomputable def C_zc : Code := (f181.body).getD .skip
noncomputable def T_zu (a1_ : Y1) (a2_ : Y1) : Tr (Int) :=
 .c (Int) (F_za ((length a1_ : Nat) : Int) ((length a2_ : Nat) : Int)) fun r1_ =>
 .c (Int) (watg a1_ a2_) fun r2_ =>
 .c (Int) (F_zc ([r1_, r2_] : Y1)) fun r3_ =>
 .l r3_
noncomputable def F_zu (a1_ : Y1) (a2_ : Y1) : Option (Int) := (T_zu a1_ a2_).ev
noncomputable def K_zu : RetK := yr [.tmp 4] (yj [.dat yi])
noncomputable def D_zu : FD := yd (yj [.dat y1, .dat y1]) [] [] Int (fun x => F_zu x.1.1 x.1.2.1) (fun r => ([.dat yi r], []))
noncomputable def wrj (k : Int) (v : Int × Y2) : Tr ((Int × Y2) ⊕ Y2) :=
 .g (decide (0 ≤ k)) <|
 .t (decide (v.1 < (wrap .u64 ((1 : Int) * 2 ^ (min (toNat k) (IntKind.bits .u64))))))
 (.c Y1 (F_zs v.1) fun r4_ =>
 .g (decide ((length v.2 + 1) * 24 ≤ 140737488355328)) <|
 .l (.inl ((wrap .u64 (v.1 + 1)), (set (v.2 ++ [[]]) (length v.2) r4_))))
 (.l (.inr v.2))
noncomputable def wxx (k : Int) (v : Int × Y2) : Option Y2 := iter (fun v => (wrj k v).ev) v
noncomputable def wabk : LD := ⟨{ acts := [], S := { slots := [0, 3, 4], sh := (yj [.dat yi, .arr 5, .dat (.int .u64)]), obs := [(5, .rows 24 3 yi)] } }, [(0, { acts := [], S := { slots := [3], sh := (yj [.arr 5]), obs := [(5, .rows 24 3 yi)] } })], (yh [] .nil), Int, Int × Y2, List Y1, fun k v => ((k, ((), (v.1, ()))), (v.2, ())), fun t => t.1.1, fun t => (t.1.2.2.1, t.2.1), wrj, fun _ r => .l (.exit 0 (wal ({ slots := [3], sh := (yj [.arr 5]), obs := [(5, .rows 24 3 yi)] }) (((), ()), (r, ()))))⟩
noncomputable def wati (a1_ : Int) : Tr ((List Nat) × Y2) :=
 .c Y2 (wxx a1_ ((1 : Int), ([] : List Y1))) fun r6_ =>
 .c ((List Nat) × Y2) (watd (fun h7_ => Option.bind (F_zu h7_.1 h7_.2.1) fun y8_ => some y8_) ((List.range (length r6_)), r6_)) fun r9_ =>
 .l r9_
noncomputable def wakg (a1_ : Int) : Option ((List Nat) × Y2) := (wati a1_).ev
noncomputable def wbwx : RetK := { acts := [.ren 5 0], res := [.tmp 2], sh := (yj [.arr 0]), obs := [(0, .perm 24 3 yi)], pins := [] }
noncomputable def wbdc : FD := yd (yj [.dat yi]) [] [] ((List Nat) × Y2) (fun x => wakg x.1.1) (fun r => ([.arr 0], [(0, .perm false 24 3 yi r.1 r.2)]))
noncomputable def wbdd : Nat → Nat → List Nat := fun r i => match look [(1, [(0, [1000000])]), (6, [(1, [80000017])])] r with
 | some l => (look l i).getD []
 | none => []
noncomputable def wbde : Env := wab [(144, D_zs), (184, wate), (184, wate), (185, D_zu)]
noncomputable def wbdf : List (Nat × LD) := [(0, wabk)]
noncomputable def watj : Code := (f91.body).getD .skip
noncomputable def wnk (k : Y2 × (((HL [y1] → Option (Bool))) × Int)) (v : Int) : Tr ((Int) ⊕ ((Unit) ⊕ (Int))) :=
 .t (decide (v < k.2.2))
 (.g (inR v (length k.1)) <|
 .c (Bool) (k.2.1 ((getD k.1 (toNat v) ([] : Y1)), ())) fun r5_ =>
 .t r5_
 (.l (.inr (.inr v)))
 (.l (.inl (wrap .i64 (v + 1)))))
 (.l (.inr (.inl ())))
noncomputable def wakh (k : Y2 × (((HL [y1] → Option (Bool))) × Int)) (v : Int) : Option ((Unit) ⊕ (Int)) := iter (fun v => (wnk k v).ev) v
noncomputable def wabl : LD := ⟨(yh [0, 1, 7, 8] (yj [.dat y2, .clo [y1] .bool, .dat yi, .dat yi])), [(0, (yh [] .nil))], (yh [4] (yj [.dat yi])), Y2 × (((HL [y1] → Option (Bool))) × Int), Int, (Unit) ⊕ (Int), fun k v => ((k.1, (k.2.1, (k.2.2, (v, ())))), ()), fun t => (t.1.1, (t.1.2.1, t.1.2.2.1)), fun t => t.1.2.2.2.1, wnk, fun _ r => .s (Unit) (Int) r (fun _ => .l (.exit 0 (wal ((ys [] .nil)) ((), ())))) (fun b => .l (.ret (wal ((ys [4] (yj [.dat yi]))) ((b, ()), ()))))⟩
noncomputable def wbdg (a1_ : List Y1) (a2_ : (HL [y1] → Option (Bool))) : Tr (Int) :=
 .c ((Unit) ⊕ (Int)) (wakh (a1_, (a2_, ((length a1_ : Nat) : Int))) (0 : Int)) fun r7_ =>
 .s (Unit) (Int) r7_
 (fun _ => .l (-1 : Int))
 (fun r9_ => .l r9_)
noncomputable def waki (a1_ : List Y1) (a2_ : (HL [y1] → Option (Bool))) : Option (Int) := (wbdg a1_ a2_).ev
noncomputable def wbwy : RetK := yr [.tmp 4] (yj [.dat yi])
noncomputable def wakj : FD := yd (yj [.dat y2, .clo [y1] .bool]) [] [] Int (fun x => waki x.1.1 x.1.2.1) (fun r => ([.dat yi r], []))
noncomputable def wbdh : Env := wab []
noncomputable def wbdi : List (Nat × LD) := [(0, wabl)]
noncomputable def watk : Code := (f131.body).getD .skip
noncomputable def wki (k : (HL [y1] → Option (Bool))) (v : Int × (Int × ((List Nat) × Y2))) : Tr ((Int × (Int × ((List Nat) × Y2))) ⊕ (Int × ((List Nat) × Y2))) :=
 .t (decide (v.2.1 < ((length v.2.2.1 : Nat) : Int)))
 (.g (inR v.2.1 (length v.2.2.1)) <|
 .g (decide ((toNat v.2.1) < length v.2.2.1) && decide ((getD v.2.2.1 (toNat v.2.1) 0) < length v.2.2.2)) <|
 .c (Bool) (k ((getD v.2.2.2 (getD v.2.2.1 (toNat v.2.1) 0) ([] : Y1)), ())) fun r6_ =>
 .t (!r6_)
 (.g (inR v.1 (length v.2.2.1)) <|
 .g (decide ((toNat v.1) < length v.2.2.1)) <|
 .l (.inl ((wrap .i64 (v.1 + 1)), ((wrap .i64 (v.2.1 + 1)), ((set v.2.2.1 (toNat v.1) (getD v.2.2.1 (toNat v.2.1) 0)), v.2.2.2)))))
 (.l (.inl (v.1, ((wrap .i64 (v.2.1 + 1)), v.2.2)))))
 (.l (.inr (v.1, v.2.2)))
noncomputable def wakk (k : (HL [y1] → Option (Bool))) (v : Int × (Int × ((List Nat) × Y2))) : Option (Int × ((List Nat) × Y2)) := iter (fun v => (wki k v).ev) v
noncomputable def wabm : LD := ⟨{ acts := [], S := { slots := [0, 1, 5, 6], sh := (yj [.arr 64, .clo [y1] .bool, .dat yi, .dat yi]), obs := [(64, .perm 24 3 yi)] } }, [(0, { acts := [], S := { slots := [0, 5], sh := (yj [.arr 64, .dat yi]), obs := [(64, .perm 24 3 yi)] } })], (yh [] .nil), (HL [y1] → Option (Bool)), Int × (Int × ((List Nat) × Y2)), Int × ((List Nat) × Y2), fun k v => (((), (k, (v.1, (v.2.1, ())))), (v.2.2, ())), fun t => t.1.2.1, fun t => (t.1.2.2.1, (t.1.2.2.2.1, t.2.1)), wki, fun _ r => .l (.exit 0 (wal ({ slots := [0, 5], sh := (yj [.arr 64, .dat yi]), obs := [(64, .perm 24 3 yi)] }) (((), (r.1, ())), (r.2, ()))))⟩
noncomputable def wbdj (a2_ : (HL [y1] → Option (Bool))) (a1_ : (List Nat) × Y2) : Tr ((List Nat) × Y2) :=
 .c (Int) (waki (wbd a1_.1 a1_.2) a2_) fun r1_ =>
 .t (r1_ == (-1 : Int))
 (.l a1_)
 (.c (Int × ((List Nat) × Y2)) (wakk a2_ (r1_, ((wrap .i64 (r1_ + 1)), a1_))) fun r9_ =>
 .g (decide (0 ≤ r9_.1) && decide (r9_.1 ≤ ((length r9_.2.1 : Nat) : Int))) <|
 .g (decide (0 ≤ r9_.1) && decide (r9_.1 ≤ ((length (List.take (toNat r9_.1) r9_.2.1 ++ List.replicate (length r9_.2.1 - (toNat r9_.1)) (length r9_.2.2)) : Nat) : Int))) <|
 .l ((List.take (toNat r9_.1) (List.take (toNat r9_.1) r9_.2.1 ++ List.replicate (length r9_.2.1 - (toNat r9_.1)) (length r9_.2.2))), r9_.2.2))
noncomputable def watl (a2_ : (HL [y1] → Option (Bool))) (a1_ : (List Nat) × Y2) : Option ((List Nat) × Y2) := (wbdj a2_ a1_).ev
noncomputable def wbwz : RetK := { acts := [.ren 64 0], res := [.tmp 4], sh := (yj [.arr 0]), obs := [(0, .perm 24 3 yi)], pins := [], gone := [64] }
noncomputable def watm : FD := yd (yj [.arr 64, .clo [y1] .bool]) [(64, .perm 24 3 yi)] [.arg 0] ((List Nat) × Y2) (fun x => watl x.1.2.1 x.2.1) (fun r => ([.arr 0], [(0, .perm false 24 3 yi r.1 r.2), (64, .spent)]))
noncomputable def wbdk : Env := wab [(131, wakj)]
noncomputable def wbdl : List (Nat × LD) := [(0, wabm)]
noncomputable def watn : Code := (f90.body).getD .skip
noncomputable def wbdm (a1_ : Y1) (a2_ : Int) : Tr (Bool) :=
 .l (((length a1_ : Nat) : Int) != a2_)
noncomputable def wakl (a1_ : Y1) (a2_ : Int) : Option (Bool) := (wbdm a1_ a2_).ev
noncomputable def wbxa : RetK := yr [.tmp 3] (yj [.dat .bool])
noncomputable def wbdn : FD := yd (yj [.dat y1, .ptr (yj [.dat yi])]) [] [] Bool (fun x => wakl x.1.1 x.1.2.1.1) (fun r => ([.dat .bool r], []))
noncomputable def wbdo (a1_ : Int) (a2_ : Int) : Tr ((List Nat) × Y2) :=
 .c ((List Nat) × Y2) (wakg a1_) fun r1_ =>
 .c ((List Nat) × Y2) (watl (fun h2_ => Option.bind (wakl h2_.1 a2_) fun y3_ => some y3_) r1_) fun r4_ =>
 .l r4_
noncomputable def wakm (a1_ : Int) (a2_ : Int) : Option ((List Nat) × Y2) := (wbdo a1_ a2_).ev
noncomputable def wbxb : RetK := { acts := [.ren 512 0], res := [.tmp 4], sh := (yj [.arr 0]), obs := [(0, .perm 24 3 yi)], pins := [] }
noncomputable def wato : FD := yd (yj [.dat yi, .dat yi]) [] [] ((List Nat) × Y2) (fun x => wakm x.1.1 x.1.2.1) (fun r => ([.arr 0], [(0, .perm false 24 3 yi r.1 r.2)]))
noncomputable def wkj (k : ((HL [y1] → Option (Int))) × (Int × ((List Nat) × Y2))) (v : (Nat) × Int) : Tr (((Nat) × Int) ⊕ (Nat)) :=
 .t (decide (v.2 < k.2.1))
 (.g (inR v.2 (length k.2.2.1)) <|
 .g (decide ((toNat v.2) < length k.2.2.1) && decide ((getD k.2.2.1 (toNat v.2) 0) < length k.2.2.2)) <|
 .c (Int) (k.1 ((getD k.2.2.2 (getD k.2.2.1 (toNat v.2) 0) ([] : Y1)), ())) fun r6_ =>
 .c (Int) (k.1 ((getD k.2.2.2 v.1 ([] : Y1)), ())) fun r7_ =>
 .t (decide (r6_ < r7_))
 (.l (.inl ((getD k.2.2.1 (toNat v.2) 0), (wrap .i64 (v.2 + 1)))))
 (.l (.inl (v.1, (wrap .i64 (v.2 + 1))))))
 (.l (.inr v.1))
noncomputable def wakn (k : ((HL [y1] → Option (Int))) × (Int × ((List Nat) × Y2))) (v : (Nat) × Int) : Option (Nat) := iter (fun v => (wkj k v).ev) v
noncomputable def wabn : LD := ⟨{ acts := [], S := { slots := [0, 1, 5, 11, 12, 13], sh := (yj [.arr 64, .clo [y1] yi, .row 64, .arr 64, .dat yi, .dat yi]), obs := [(64, .perm 24 3 yi)] } }, [(0, { acts := [], S := { slots := [0, 5], sh := (yj [.arr 64, .row 64]), obs := [(64, .perm 24 3 yi)] } })], (yh [] .nil), ((HL [y1] → Option (Int))) × (Int × ((List Nat) × Y2)), (Nat) × (Int), Nat, fun k v => (((), (k.1, (v.1, ((), (k.2.1, (v.2, ())))))), (k.2.2, ())), fun t => (t.1.2.1, (t.1.2.2.2.2.1, t.2.1)), fun t => (t.1.2.2.1, t.1.2.2.2.2.2.1), wkj, fun k r => .l (.exit 0 (wal ({ slots := [0, 5], sh := (yj [.arr 64, .row 64]), obs := [(64, .perm 24 3 yi)] }) (((), (r, ())), (k.2.2, ()))))⟩
noncomputable def wbdp (a2_ : (HL [y1] → Option (Int))) (a1_ : (List Nat) × Y2) : Tr Y1 :=
 .g (inR 0 (length a1_.1)) <|
 .g (decide ((toNat 0) < length a1_.1) && decide ((getD a1_.1 (toNat 0) 0) < length a1_.2)) <|
 .c (Nat) (wakn (a2_, (((length a1_.1 : Nat) : Int), a1_)) ((getD a1_.1 (toNat 0) 0), (0 : Int))) fun r10_ =>
 .l (getD a1_.2 r10_ ([] : Y1))
noncomputable def wako (a2_ : (HL [y1] → Option (Int))) (a1_ : (List Nat) × Y2) : Option Y1 := (wbdp a2_ a1_).ev
noncomputable def wbxc : RetK := { acts := [.pull 4 800000, .ren 800000 0], res := [.tmp 4], sh := (yj [.arr 0]), obs := [(0, .arr 3 yi)], pins := [], gone := [64] }
noncomputable def wafr : FD := yd (yj [.arr 64, .clo [y1] yi]) [(64, .perm 24 3 yi)] [.arg 0] Y1 (fun x => wako x.1.2.1 x.2.1) (fun r => ([.arr 0], [(0, .arr 3 yi r), (64, .spent)]))
noncomputable def wbdq : Env := wab []
noncomputable def wbdr : List (Nat × LD) := [(0, wabn)]
noncomputable def watp : Code := (f94.body).getD .skip
noncomputable def wuu (k : Y2 × (Y1 × (Int × (Y1 × (Int × (Int × (Y1 × Int))))))) (v : Int × Int) : Tr ((Int × Int) ⊕ (Int)) :=
 .t (decide (v.2 < k.2.2.2.2.2.2.2))
 (.g (inR v.2 (length k.2.2.2.2.2.2.1)) <|
 .g (inR k.2.2.1 (length k.1)) <|
 .g (inR (getD k.2.2.2.2.2.2.1 (toNat v.2) 0) (length (getD k.1 (toNat k.2.2.1) ([] : Y1)))) <|
 .l (.inl ((if (getD (getD k.1 (toNat k.2.2.1) ([] : Y1)) (toNat (getD k.2.2.2.2.2.2.1 (toNat v.2) 0)) (0 : Int)) < v.1 then (getD (getD k.1 (toNat k.2.2.1) ([] : Y1)) (toNat (getD k.2.2.2.2.2.2.1 (toNat v.2) 0)) (0 : Int)) else v.1), (wrap .i64 (v.2 + 1)))))
 (.l (.inr v.1))
noncomputable def wazb (k : Y2 × (Y1 × (Int × (Y1 × (Int × (Int × (Y1 × Int))))))) (v : Int × Int) : Option (Int) := iter (fun v => (wuu k v).ev) v
noncomputable def wakp : LD := ⟨(yh [0, 1, 5, 7, 10, 11, 12, 19, 20, 21] (yj [.dat y2, .dat y1, .dat yi, .dat yi, .dat y1, .dat yi, .dat yi, .dat y1, .dat yi, .dat yi])), [(2, (yh [0, 1, 5, 10, 11, 12] (yj [.dat y2, .dat y1, .dat yi, .dat y1, .dat yi, .dat yi])))], (yh [] .nil), Y2 × (Y1 × (Int × (Y1 × (Int × (Int × (Y1 × Int)))))), Int × (Int), Int, fun k v => ((k.1, (k.2.1, (v.1, (k.2.2.1, (k.2.2.2.1, (k.2.2.2.2.1, (k.2.2.2.2.2.1, (k.2.2.2.2.2.2.1, (k.2.2.2.2.2.2.2, (v.2, ())))))))))), ()), fun t => (t.1.1, (t.1.2.1, (t.1.2.2.2.1, (t.1.2.2.2.2.1, (t.1.2.2.2.2.2.1, (t.1.2.2.2.2.2.2.1, (t.1.2.2.2.2.2.2.2.1, t.1.2.2.2.2.2.2.2.2.1))))))), fun t => (t.1.2.2.1, t.1.2.2.2.2.2.2.2.2.2.1), wuu, fun k r => .l (.exit 2 (wal ((ys [0, 1, 5, 10, 11, 12] (yj [.dat y2, .dat y1, .dat yi, .dat y1, .dat yi, .dat yi]))) ((k.1, (k.2.1, (r, (k.2.2.2.1, (k.2.2.2.2.1, (k.2.2.2.2.2.1, ())))))), ())))⟩
noncomputable def wuv (k : Y2 × (Y1 × (Y1 × Int))) (v : Int × Int) : Tr ((Int × Int) ⊕ (Int)) :=
 .t (decide (v.2 < k.2.2.2))
 (.g (inR v.2 (length k.2.2.1)) <|
 .g (decide (0 ≤ v.2) && decide (v.2 ≤ ((length k.2.1 : Nat) : Int))) <|
 .c (Int) (wazb (k.1, (k.2.1, ((getD k.2.2.1 (toNat v.2) 0), (k.2.2.1, (k.2.2.2, (v.2, ((List.drop 0 (List.take (toNat v.2) k.2.1)), ((length (List.drop 0 (List.take (toNat v.2) k.2.1)) : Nat) : Int)))))))) (v.1, (0 : Int))) fun r23_ =>
 .l (.inl (r23_, (wrap .i64 (v.2 + 1)))))
 (.l (.inr v.1))
noncomputable def wazc (k : Y2 × (Y1 × (Y1 × Int))) (v : Int × Int) : Option (Int) := iter (fun v => (wuv k v).ev) v
noncomputable def wakq : LD := ⟨(yh [0, 1, 5, 10, 11, 12] (yj [.dat y2, .dat y1, .dat yi, .dat y1, .dat yi, .dat yi])), [(0, (yh [5] (yj [.dat yi])))], (yh [] .nil), Y2 × (Y1 × (Y1 × Int)), Int × (Int), Int, fun k v => ((k.1, (k.2.1, (v.1, (k.2.2.1, (k.2.2.2, (v.2, ())))))), ()), fun t => (t.1.1, (t.1.2.1, (t.1.2.2.2.1, t.1.2.2.2.2.1))), fun t => (t.1.2.2.1, t.1.2.2.2.2.2.1), wuv, fun _ r => .l (.exit 0 (wal ((ys [5] (yj [.dat yi]))) ((r, ()), ())))⟩
noncomputable def T_zv (a1_ : List Y1) (a2_ : Y1) : Tr (Int) :=
 .c (Int) (wazc (a1_, (a2_, (a2_, ((length a2_ : Nat) : Int)))) ((100 : Int), (0 : Int))) fun r25_ =>
 .l r25_
noncomputable def F_zv (a1_ : List Y1) (a2_ : Y1) : Option (Int) := (T_zv a1_ a2_).ev
noncomputable def K_zv : RetK := yr [.tmp 4] (yj [.dat yi])
noncomputable def D_zv : FD := yd (yj [.dat y2, .dat y1]) [] [] Int (fun x => F_zv x.1.1 x.1.2.1) (fun r => ([.dat yi r], []))
noncomputable def E_zv : Env := wab []
noncomputable def O_zv : List (Nat × LD) := [(2, wakp), (0, wakq)]
noncomputable def C_zv : Code := (f107.body).getD .skip
noncomputable def T_zf (a1_ : Y1) (a2_ : List Y1) : Tr (Int) :=
 .c (Int) (F_zv a2_ a1_) fun r1_ =>
 .l (wrap .i64 (0 - r1_))
noncomputable def F_zf (a1_ : Y1) (a2_ : List Y1) : Option (Int) := (T_zf a1_ a2_).ev
noncomputable def K_zf : RetK := yr [.tmp 3] (yj [.dat yi])
noncomputable def D_zf : FD := yd (yj [.dat y1, .ptr (yj [.dat y2])]) [] [] Int (fun x => F_zf x.1.1 x.1.2.1.1) (fun r => ([.dat yi r], []))
noncomputable def T_ze (a1_ : List Y1) (a2_ : Int) : Tr (Bool × Y1) :=
 .c (Bool) (F_zj a1_) fun r1_ =>
 .t (!r1_)
 (.l (false, ([] : Y1)))
 (.c (Bool) (F_zt a2_ (2 : Int) ((length a1_ : Nat) : Int)) fun r2_ =>
 .t (!r2_)
 (.l (false, ([] : Y1)))
 (.c ((List Nat) × Y2) (wakm ((length a1_ : Nat) : Int) a2_) fun r3_ =>
 .c Y1 (wako (fun h4_ => Option.bind (F_zf h4_.1 a1_) fun y5_ => some y5_) r3_) fun r6_ =>
 .l (true, r6_)))
noncomputable def F_ze (a1_ : List Y1) (a2_ : Int) : Option (Bool × Y1) := (T_ze a1_ a2_).ev
noncomputable def K_ze : RetK := { acts := [.own 4 0 3 yi, .ren 1344 0], res := [.tmp 4, .tmp 5], sh := (yj [.arr 0, .dat .bool]), obs := [(0, .arr 3 yi)], pins := [] }
noncomputable def D_ze : FD := yd (yj [.dat y2, .dat yi]) [] [] (Bool × Y1) (fun x => F_ze x.1.1 x.1.2.1) (fun r => ([.arr 0, .dat .bool r.1], [(0, .arr 3 yi r.2)]))
noncomputable def wbds (a1_ : Int) (a2_ : Int) (a3_ : Int) : Tr (Bool) :=
 .t (decide (a2_ ≤ a1_))
 (.l (decide (a1_ ≤ a3_)))
 (.l false)
noncomputable def wuw (a1_ : Int) (a2_ : Int) (a3_ : Int) : Option (Bool) := (wbds a1_ a2_ a3_).ev
noncomputable def wbxi : RetK := yr [.tmp 6] (yj [.dat .bool])
noncomputable def wxy : FD := yd (yj [.dat yi, .dat yi, .dat yi]) [] [] Bool (fun x => wuw x.1.1 x.1.2.1 x.1.2.2.1) (fun r => ([.dat .bool r], []))
noncomputable def wnl (k : Y1 × (Int × Int)) (v : Int) : Tr ((Int) ⊕ ((Unit) ⊕ (Unit))) :=
 .t (decide (v < ((length k.1 : Nat) : Int)))
 (.g (inR v (length k.1)) <|
 .c (Bool) (wuw (getD k.1 (toNat v) 0) (0 : Int) k.2.2) fun r5_ =>
 .t (!r5_)
 (.l (.inr (.inr ())))
 (.l (.inl (wrap .i64 (v + 1)))))
 (.l (.inr (.inl ())))
noncomputable def wakr (k : Y1 × (Int × Int)) (v : Int) : Option ((Unit) ⊕ (Unit)) := iter (fun v => (wnl k v).ev) v
noncomputable def wabo : LD := ⟨(yh [0, 1, 2, 7] (yj [.dat y1, .dat yi, .dat yi, .dat yi])), [(0, (yh [0, 1] (yj [.dat y1, .dat yi])))], (yh [6] (yj [.dat .bool])), Y1 × (Int × Int), Int, (Unit) ⊕ (Unit), fun k v => ((k.1, (k.2.1, (k.2.2, (v, ())))), ()), fun t => (t.1.1, (t.1.2.1, t.1.2.2.1)), fun t => t.1.2.2.2.1, wnl, fun k r => .s (Unit) (Unit) r (fun _ => .l (.exit 0 (wal ((ys [0, 1] (yj [.dat y1, .dat yi]))) ((k.1, (k.2.1, ())), ())))) (fun _ => .l (.ret (wal ((ys [6] (yj [.dat .bool]))) ((false, ()), ()))))⟩
noncomputable def wbdt (a1_ : Y1) (a2_ : Int) (a3_ : Int) : Tr (Bool) :=
 .c ((Unit) ⊕ (Unit)) (wakr (a1_, (a2_, a3_)) (0 : Int)) fun r9_ =>
 .s (Unit) (Unit) r9_
 (fun _ => .l (((length a1_ : Nat) : Int) == a2_))
 (fun _ => .l false)
noncomputable def watq (a1_ : Y1) (a2_ : Int) (a3_ : Int) : Option (Bool) := (wbdt a1_ a2_ a3_).ev
noncomputable def wbxj : RetK := yr [.tmp 6] (yj [.dat .bool])
noncomputable def wbdu : FD := yd (yj [.dat y1, .dat yi, .dat yi]) [] [] Bool (fun x => watq x.1.1 x.1.2.1 x.1.2.2.1) (fun r => ([.dat .bool r], []))
noncomputable def wbdv : Env := wab [(130, wxy)]
noncomputable def wbdw : List (Nat × LD) := [(0, wabo)]
noncomputable def watr : Code := (f200.body).getD .skip
noncomputable def wno (k : Y2 × (Int × Int)) (v : Int) : Tr ((Int) ⊕ ((Unit) ⊕ (Unit))) :=
 .t (decide (v < k.2.2))
 (.g (inR k.2.2 (length k.1)) <|
 .g (inR v (length (getD k.1 (toNat k.2.2) ([] : Y1)))) <|
 .g (inR v (length k.1)) <|
 .g (inR k.2.2 (length (getD k.1 (toNat v) ([] : Y1)))) <|
 .t ((getD (getD k.1 (toNat k.2.2) ([] : Y1)) (toNat v) (0 : Int)) != (getD (getD k.1 (toNat v) ([] : Y1)) (toNat k.2.2) (0 : Int)))
 (.l (.inr (.inr ())))
 (.l (.inl (wrap .i64 (v + 1)))))
 (.l (.inr (.inl ())))
noncomputable def waks (k : Y2 × (Int × Int)) (v : Int) : Option ((Unit) ⊕ (Unit)) := iter (fun v => (wno k v).ev) v
noncomputable def wabp : LD := ⟨(yh [0, 3, 4, 5] (yj [.dat y2, .dat yi, .dat yi, .dat yi])), [(2, (yh [0, 3, 4] (yj [.dat y2, .dat yi, .dat yi])))], (yh [2] (yj [.dat .bool])), Y2 × (Int × Int), Int, (Unit) ⊕ (Unit), fun k v => ((k.1, (k.2.1, (k.2.2, (v, ())))), ()), fun t => (t.1.1, (t.1.2.1, t.1.2.2.1)), fun t => t.1.2.2.2.1, wno, fun k r => .s (Unit) (Unit) r (fun _ => .l (.exit 2 (wal ((ys [0, 3, 4] (yj [.dat y2, .dat yi, .dat yi]))) ((k.1, (k.2.1, (k.2.2, ()))), ())))) (fun _ => .l (.ret (wal ((ys [2] (yj [.dat .bool]))) ((false, ()), ()))))⟩
noncomputable def wnp (k : Y2 × Int) (v : Int) : Tr ((Int) ⊕ ((Unit) ⊕ (Unit))) :=
 .t (decide (v < k.2))
 (.g (inR v (length k.1)) <|
 .c (Bool) (watq (getD k.1 (toNat v) ([] : Y1)) k.2 (99 : Int)) fun r4_ =>
 .t (!r4_)
 (.l (.inr (.inr ())))
 (.g (inR v (length k.1)) <|
 .g (inR v (length (getD k.1 (toNat v) ([] : Y1)))) <|
 .t ((getD (getD k.1 (toNat v) ([] : Y1)) (toNat v) (0 : Int)) != (0 : Int))
 (.l (.inr (.inr ())))
 (.c ((Unit) ⊕ (Unit)) (waks (k.1, (k.2, v)) (0 : Int)) fun r13_ =>
 .s (Unit) (Unit) r13_
 (fun _ => .l (.inl (wrap .i64 (v + 1))))
 (fun _ => .l (.inr (.inr ()))))))
 (.l (.inr (.inl ())))
noncomputable def wakt (k : Y2 × Int) (v : Int) : Option ((Unit) ⊕ (Unit)) := iter (fun v => (wnp k v).ev) v
noncomputable def wabq : LD := ⟨(yh [0, 3, 4] (yj [.dat y2, .dat yi, .dat yi])), [(0, (yh [3] (yj [.dat yi])))], (yh [2] (yj [.dat .bool])), Y2 × (Int), Int, (Unit) ⊕ (Unit), fun k v => ((k.1, (k.2, (v, ()))), ()), fun t => (t.1.1, t.1.2.1), fun t => t.1.2.2.1, wnp, fun k r => .s (Unit) (Unit) r (fun _ => .l (.exit 0 (wal ((ys [3] (yj [.dat yi]))) ((k.2, ()), ())))) (fun _ => .l (.ret (wal ((ys [2] (yj [.dat .bool]))) ((false, ()), ()))))⟩
noncomputable def wbdx (a1_ : List Y1) : Tr (Bool) :=
 .c ((Unit) ⊕ (Unit)) (wakt (a1_, ((length a1_ : Nat) : Int)) (0 : Int)) fun r18_ =>
 .s (Unit) (Unit) r18_
 (fun _ => .l (decide (((length a1_ : Nat) : Int) ≤ (7 : Int))))
 (fun _ => .l false)
noncomputable def wux (a1_ : List Y1) : Option (Bool) := (wbdx a1_).ev
noncomputable def wbxk : RetK := yr [.tmp 2] (yj [.dat .bool])
noncomputable def wxz : FD := yd (yj [.dat y2]) [] [] Bool (fun x => wux x.1.1) (fun r => ([.dat .bool r], []))
noncomputable def wats : Env := wab [(200, wbdu)]
noncomputable def watt : List (Nat × LD) := [(2, wabp), (0, wabq)]
noncomputable def wafs : Code := (f114.body).getD .skip
noncomputable def wbdy (a1_ : List Y1) (a2_ : Int) : Tr (Bool) :=
 .c (Bool) (wux a1_) fun r1_ =>
 .t r1_
 (.c (Bool) (wuw a2_ (2 : Int) ((length a1_ : Nat) : Int)) fun r2_ =>
 .l r2_)
 (.l false)
noncomputable def waku (a1_ : List Y1) (a2_ : Int) : Option (Bool) := (wbdy a1_ a2_).ev
noncomputable def wbxl : RetK := yr [.tmp 4] (yj [.dat .bool])
noncomputable def watu : FD := yd (yj [.dat y2, .dat yi]) [] [] Bool (fun x => waku x.1.1 x.1.2.1) (fun r => ([.dat .bool r], []))
noncomputable def wgj (k : Int × Int) (v : Int × Y1) : Tr ((Int × Y1) ⊕ Y1) :=
 .t (decide (v.1 < k.1))
 (.g (decide (0 ≤ v.1)) <|
 .t ((wrap .i64 (BitVec.toNat ((BitVec.ofInt (IntKind.bits .i64) (Int.fdiv k.2 (2 ^ (min (toNat v.1) (IntKind.bits .i64))))) &&& (BitVec.ofInt (IntKind.bits .i64) (1 : Int))))) == (1 : Int))
 (.g (decide ((length v.2 + length ([v.1] : Y1)) * 8 ≤ 140737488355328)) <|
 .l (.inl ((wrap .i64 (v.1 + 1)), (v.2 ++ ([v.1] : Y1)))))
 (.l (.inl ((wrap .i64 (v.1 + 1)), v.2))))
 (.l (.inr v.2))
noncomputable def wrk (k : Int × Int) (v : Int × Y1) : Option Y1 := iter (fun v => (wgj k v).ev) v
noncomputable def wabr : LD := ⟨{ acts := [], S := { slots := [0, 1, 5, 6], sh := (yj [.dat yi, .dat yi, .arr 7, .dat yi]), obs := [(7, .arr 3 yi)] } }, [(0, { acts := [], S := { slots := [5], sh := (yj [.arr 7]), obs := [(7, .arr 3 yi)] } })], (yh [] .nil), Int × (Int), Int × Y1, Y1, fun k v => ((k.1, (k.2, ((), (v.1, ())))), (v.2, ())), fun t => (t.1.1, t.1.2.1), fun t => (t.1.2.2.2.1, t.2.1), wgj, fun _ r => .l (.exit 0 (wal ({ slots := [5], sh := (yj [.arr 7]), obs := [(7, .arr 3 yi)] }) (((), ()), (r, ()))))⟩
noncomputable def wakv (a1_ : Int) (a2_ : Int) : Tr Y1 :=
 .c Y1 (wrk (a1_, a2_) ((0 : Int), ([] : Y1))) fun r6_ =>
 .l r6_
noncomputable def wya (a1_ : Int) (a2_ : Int) : Option Y1 := (wakv a1_ a2_).ev
noncomputable def wbxm : RetK := { acts := [.ren 7 0], res := [.tmp 4], sh := (yj [.arr 0]), obs := [(0, .arr 3 yi)], pins := [] }
noncomputable def watv : FD := yd (yj [.dat yi, .dat yi]) [] [] Y1 (fun x => wya x.1.1 x.1.2.1) (fun r => ([.arr 0], [(0, .arr 3 yi r)]))
noncomputable def wbdz : Env := wab []
noncomputable def wbea : List (Nat × LD) := [(0, wabr)]
noncomputable def watw : Code := (f119.body).getD .skip
noncomputable def wrl (k : Y1 × Y1) (v : Int) : Tr ((Int) ⊕ ((Unit) ⊕ (Bool))) :=
 .t (decide (v < ((length k.1 : Nat) : Int)))
 (.g (inR v (length k.1)) <|
 .g (inR v (length k.2)) <|
 .t ((getD k.1 (toNat v) 0) != (getD k.2 (toNat v) 0))
 (.g (inR v (length k.1)) <|
 .g (inR v (length k.2)) <|
 .l (.inr (.inr (decide ((getD k.1 (toNat v) 0) < (getD k.2 (toNat v) 0))))))
 (.l (.inl (wrap .i64 (v + 1)))))
 (.l (.inr (.inl ())))
noncomputable def wyb (k : Y1 × Y1) (v : Int) : Option ((Unit) ⊕ (Bool)) := iter (fun v => (wrl k v).ev) v
noncomputable def wabs : LD := ⟨(yh [0, 1, 5] (yj [.dat y1, .dat y1, .dat yi])), [(0, (yh [] .nil))], (yh [4] (yj [.dat .bool])), Y1 × Y1, Int, (Unit) ⊕ (Bool), fun k v => ((k.1, (k.2, (v, ()))), ()), fun t => (t.1.1, t.1.2.1), fun t => t.1.2.2.1, wrl, fun _ r => .s (Unit) (Bool) r (fun _ => .l (.exit 0 (wal ((ys [] .nil)) ((), ())))) (fun b => .l (.ret (wal ((ys [4] (yj [.dat .bool]))) ((b, ()), ()))))⟩
noncomputable def watx (a1_ : Y1) (a2_ : Y1) : Tr (Bool) :=
 .t (((length a1_ : Nat) : Int) != ((length a2_ : Nat) : Int))
 (.l (decide (((length a1_ : Nat) : Int) < ((length a2_ : Nat) : Int))))
 (.c ((Unit) ⊕ (Bool)) (wyb (a1_, a2_) (0 : Int)) fun r5_ =>
 .s (Unit) (Bool) r5_
 (fun _ => .l false)
 (fun r7_ => .l r7_))
noncomputable def waty (a1_ : Y1) (a2_ : Y1) : Option (Bool) := (watx a1_ a2_).ev
noncomputable def wbxn : RetK := yr [.tmp 4] (yj [.dat .bool])
noncomputable def wbeb : FD := yd (yj [.dat y1, .dat y1]) [] [] Bool (fun x => waty x.1.1 x.1.2.1) (fun r => ([.dat .bool r], []))
noncomputable def wbec : Env := wab []
noncomputable def wbed : List (Nat × LD) := [(0, wabs)]
noncomputable def watz : Code := (f189.body).getD .skip
noncomputable def wrm (k : Int × (Y2 × (Int × Y1))) (v : Int) : Tr ((Int) ⊕ (Int)) :=
 .t (decide (0 < v))
 (.g (inR (wrap .i64 (v - 1)) (length k.2.1)) <|
 .c (Bool) (waty k.2.2.2 (getD k.2.1 (toNat (wrap .i64 (v - 1))) ([] : Y1))) fun r26_ =>
 .t r26_
 (.l (.inl (wrap .i64 (v - 1))))
 (.l (.inr v)))
 (.l (.inr v))
noncomputable def wyc (k : Int × (Y2 × (Int × Y1))) (v : Int) : Option (Int) := iter (fun v => (wrm k v).ev) v
noncomputable def wabt : LD := ⟨{ acts := [], S := { slots := [0, 3, 4, 5, 6], sh := (yj [.dat yi, .dat y2, .dat yi, .arr 1024, .dat yi]), obs := [(1024, .arr 3 yi)] } }, [(2, { acts := [], S := { slots := [0, 3, 4, 5, 6], sh := (yj [.dat yi, .dat y2, .dat yi, .arr 1024, .dat yi]), obs := [(1024, .arr 3 yi)] } })], (yh [] .nil), Int × (Y2 × (Int × Y1)), Int, Int, fun k v => ((k.1, (k.2.1, (k.2.2.1, ((), (v, ()))))), (k.2.2.2, ())), fun t => (t.1.1, (t.1.2.1, (t.1.2.2.1, t.2.1))), fun t => t.1.2.2.2.2.1, wrm, fun k r => .l (.exit 2 (wal ({ slots := [0, 3, 4, 5, 6], sh := (yj [.dat yi, .dat y2, .dat yi, .arr 1024, .dat yi]), obs := [(1024, .arr 3 yi)] }) ((k.1, (k.2.1, (k.2.2.1, ((), (r, ()))))), (k.2.2.2, ()))))⟩
noncomputable def wrn (k : Int) (v : Y2 × Int) : Tr ((Y2 × Int) ⊕ Y2) :=
 .g (decide (0 ≤ k)) <|
 .t (decide (v.2 < (wrap .i64 ((1 : Int) * 2 ^ (min (toNat k) (IntKind.bits .i64))))))
 (.c Y1 (wya k v.2) fun r20_ =>
 .c (Int) (wyc (k, (v.1, (v.2, r20_))) ((length v.1 : Nat) : Int)) fun r32_ =>
 .g (decide (0 ≤ r32_) && decide (r32_ ≤ ((length v.1 : Nat) : Int))) <|
 .g (decide ((length ([] : List Y1) + length (List.drop 0 (List.take (toNat r32_) v.1))) * 24 ≤ 140737488355328)) <|
 .g (decide ((length (([] : List Y1) ++ (List.drop 0 (List.take (toNat r32_) v.1))) + length ([r20_] : List Y1)) * 24 ≤ 140737488355328)) <|
 .g (decide (0 ≤ r32_) && decide (r32_ ≤ ((length v.1 : Nat) : Int))) <|
 .g (decide ((length ((([] : List Y1) ++ (List.drop 0 (List.take (toNat r32_) v.1))) ++ ([r20_] : List Y1)) + length (List.drop (toNat r32_) (List.take (length v.1) v.1))) * 24 ≤ 140737488355328)) <|
 .l (.inl ((((([] : List Y1) ++ (List.drop 0 (List.take (toNat r32_) v.1))) ++ ([r20_] : List Y1)) ++ (List.drop (toNat r32_) (List.take (length v.1) v.1))), (wrap .i64 (v.2 + 1)))))
 (.l (.inr v.1))
noncomputable def wyd (k : Int) (v : Y2 × Int) : Option Y2 := iter (fun v => (wrn k v).ev) v
noncomputable def wabu : LD := ⟨{ acts := [.fz 7, .fz 32], S := (ys [0, 3, 4] (yj [.dat yi, .dat y2, .dat yi])) }, [(0, (yh [3] (yj [.dat y2])))], (yh [] .nil), Int, Y2 × (Int), List Y1, fun k v => ((k, (v.1, (v.2, ()))), ()), fun t => t.1.1, fun t => (t.1.2.1, t.1.2.2.1), wrn, fun _ r => .l (.exit 0 (wal ((ys [3] (yj [.dat y2]))) ((r, ()), ())))⟩
noncomputable def waua (a1_ : Int) : Tr Y2 :=
 .c Y2 (wyd a1_ (([] : List Y1), (1 : Int))) fun r34_ =>
 .l r34_
noncomputable def wakw (a1_ : Int) : Option Y2 := (waua a1_).ev
noncomputable def wbxo : RetK := yr [.tmp 2] (yj [.dat y2])
noncomputable def wbee : FD := yd (yj [.dat yi]) [] [] (List Y1) (fun x => wakw x.1.1) (fun r => ([.dat y2 r], []))
noncomputable def waub : Nat → Nat → List Nat := fun r i => match look [(8, [(0, [3, 5])])] r with
 | some l => (look l i).getD []
 | none => []
noncomputable def wauc : Env := wab [(119, watv), (189, wbeb)]
noncomputable def waud : List (Nat × LD) := [(2, wabt), (0, wabu)]
noncomputable def waft : Code := (f96.body).getD .skip
noncomputable def wnq (k : Y2 × (Y1 × Int)) (v : Int × Int) : Tr ((Int × Int) ⊕ (Int)) :=
 .t (decide (v.2 < k.2.2))
 (.g (inR k.2.2 (length k.2.1)) <|
 .g (inR (getD k.2.1 (toNat k.2.2) 0) (length k.1)) <|
 .g (inR v.2 (length k.2.1)) <|
 .g (inR (getD k.2.1 (toNat v.2) 0) (length (getD k.1 (toNat (getD k.2.1 (toNat k.2.2) 0)) ([] : Y1)))) <|
 .c (Int) (wxj v.1 (getD (getD k.1 (toNat (getD k.2.1 (toNat k.2.2) 0)) ([] : Y1)) (toNat (getD k.2.1 (toNat v.2) 0)) (0 : Int))) fun r10_ =>
 .l (.inl (r10_, (wrap .i64 (v.2 + 1)))))
 (.l (.inr v.1))
noncomputable def wakx (k : Y2 × (Y1 × Int)) (v : Int × Int) : Option (Int) := iter (fun v => (wnq k v).ev) v
noncomputable def wabv : LD := ⟨(yh [0, 1, 5, 6, 7] (yj [.dat y2, .dat y1, .dat yi, .dat yi, .dat yi])), [(2, (yh [0, 1, 5, 6] (yj [.dat y2, .dat y1, .dat yi, .dat yi])))], (yh [] .nil), Y2 × (Y1 × Int), Int × (Int), Int, fun k v => ((k.1, (k.2.1, (v.1, (k.2.2, (v.2, ()))))), ()), fun t => (t.1.1, (t.1.2.1, t.1.2.2.2.1)), fun t => (t.1.2.2.1, t.1.2.2.2.2.1), wnq, fun k r => .l (.exit 2 (wal ((ys [0, 1, 5, 6] (yj [.dat y2, .dat y1, .dat yi, .dat yi]))) ((k.1, (k.2.1, (r, (k.2.2, ())))), ())))⟩
noncomputable def wnr (k : Y2 × Y1) (v : Int × Int) : Tr ((Int × Int) ⊕ (Int)) :=
 .t (decide (v.2 < ((length k.2 : Nat) : Int)))
 (.c (Int) (wakx (k.1, (k.2, v.2)) (v.1, (0 : Int))) fun r15_ =>
 .l (.inl (r15_, (wrap .i64 (v.2 + 1)))))
 (.l (.inr v.1))
noncomputable def waky (k : Y2 × Y1) (v : Int × Int) : Option (Int) := iter (fun v => (wnr k v).ev) v
noncomputable def wabw : LD := ⟨(yh [0, 1, 5, 6] (yj [.dat y2, .dat y1, .dat yi, .dat yi])), [(0, (yh [5] (yj [.dat yi])))], (yh [] .nil), Y2 × Y1, Int × (Int), Int, fun k v => ((k.1, (k.2, (v.1, (v.2, ())))), ()), fun t => (t.1.1, t.1.2.1), fun t => (t.1.2.2.1, t.1.2.2.2.1), wnr, fun _ r => .l (.exit 0 (wal ((ys [5] (yj [.dat yi]))) ((r, ()), ())))⟩
noncomputable def wbef (a1_ : List Y1) (a2_ : Y1) : Tr (Int) :=
 .g (inR 0 (length a2_)) <|
 .g (inR (getD a2_ (toNat 0) 0) (length a1_)) <|
 .g (inR 1 (length a2_)) <|
 .g (inR (getD a2_ (toNat 1) 0) (length (getD a1_ (toNat (getD a2_ (toNat 0) 0)) ([] : Y1)))) <|
 .c (Int) (waky (a1_, a2_) ((getD (getD a1_ (toNat (getD a2_ (toNat 0) 0)) ([] : Y1)) (toNat (getD a2_ (toNat 1) 0)) (0 : Int)), (0 : Int))) fun r17_ =>
 .l r17_
noncomputable def wafu (a1_ : List Y1) (a2_ : Y1) : Option (Int) := (wbef a1_ a2_).ev
noncomputable def wbxp : RetK := yr [.tmp 4] (yj [.dat yi])
noncomputable def waue : FD := yd (yj [.dat y2, .dat y1]) [] [] Int (fun x => wafu x.1.1 x.1.2.1) (fun r => ([.dat yi r], []))
noncomputable def wauf : Env := wab [(194, wajm)]
noncomputable def waug : List (Nat × LD) := [(2, wabv), (0, wabw)]
noncomputable def wafv : Code := (f109.body).getD .skip
noncomputable def wgk (k : Y2 × (Int × Y2)) (v : Y1 × Int) : Tr ((Y1 × Int) ⊕ Y1) :=
 .t (decide (v.2 < ((length k.2.2 : Nat) : Int)))
 (.g (inR v.2 (length k.2.2)) <|
 .t (((length (getD k.2.2 (toNat v.2) ([] : Y1)) : Nat) : Int) == k.2.1)
 (.t (((length v.1 : Nat) : Int) == (0 : Int))
 (.g (inR v.2 (length k.2.2)) <|
 .l (.inl ((getD k.2.2 (toNat v.2) ([] : Y1)), (wrap .i64 (v.2 + 1)))))
 (.g (inR v.2 (length k.2.2)) <|
 .c (Int) (wafu k.1 (getD k.2.2 (toNat v.2) ([] : Y1))) fun r15_ =>
 .c (Int) (wafu k.1 v.1) fun r16_ =>
 .t (decide (r16_ < r15_))
 (.g (inR v.2 (length k.2.2)) <|
 .l (.inl ((getD k.2.2 (toNat v.2) ([] : Y1)), (wrap .i64 (v.2 + 1)))))
 (.l (.inl (v.1, (wrap .i64 (v.2 + 1)))))))
 (.l (.inl (v.1, (wrap .i64 (v.2 + 1))))))
 (.l (.inr v.1))
noncomputable def wakz (k : Y2 × (Int × Y2)) (v : Y1 × Int) : Option Y1 := iter (fun v => (wgk k v).ev) v
noncomputable def wabx : LD := ⟨{ acts := [.fz 9], S := (ys [0, 1, 6, 7, 8] (yj [.dat y2, .dat yi, .dat y1, .dat y2, .dat yi])) }, [(0, (yh [6] (yj [.dat y1])))], (yh [] .nil), Y2 × (Int × Y2), Y1 × (Int), Y1, fun k v => ((k.1, (k.2.1, (v.1, (k.2.2, (v.2, ()))))), ()), fun t => (t.1.1, (t.1.2.1, t.1.2.2.2.1)), fun t => (t.1.2.2.1, t.1.2.2.2.2.1), wgk, fun _ r => .l (.exit 0 (wal ((ys [6] (yj [.dat y1]))) ((r, ()), ())))⟩
noncomputable def wbeg (a1_ : List Y1) (a2_ : Int) : Tr (Y1 × (Bool)) :=
 .c (Bool) (waku a1_ a2_) fun r1_ =>
 .t (!r1_)
 (.l (([] : Y1), false))
 (.c Y2 (wakw ((length a1_ : Nat) : Int)) fun r2_ =>
 .c Y1 (wakz (a1_, (a2_, r2_)) (([] : Y1), (0 : Int))) fun r18_ =>
 .l (r18_, true))
noncomputable def wauh (a1_ : List Y1) (a2_ : Int) : Option (Y1 × (Bool)) := (wbeg a1_ a2_).ev
noncomputable def wbxq : RetK := { acts := [.fz 9], res := [.tmp 4, .tmp 5], sh := (yj [.dat y1, .dat .bool]), obs := [], pins := [] }
noncomputable def wbeh : FD := yd (yj [.dat y2, .dat yi]) [] [] (Y1 × (Bool)) (fun x => wauh x.1.1 x.1.2.1) (fun r => ([.dat y1 r.1, .dat .bool r.2], []))
noncomputable def wbei : Env := wab [(108, watu), (96, wbee), (109, waue)]
noncomputable def wbej : List (Nat × LD) := [(0, wabx)]
noncomputable def waui : Code := (f25.body).getD .skip
noncomputable def wns (k : Y1 × Y1) (v : Int) : Tr ((Int) ⊕ ((Unit) ⊕ (Unit))) :=
 .t (decide (v < ((length k.1 : Nat) : Int)))
 (.g (inR v (length k.1)) <|
 .g (inR v (length k.2)) <|
 .t ((getD k.1 (toNat v) 0) != (getD k.2 (toNat v) 0))
 (.l (.inr (.inr ())))
 (.l (.inl (wrap .i64 (v + 1)))))
 (.l (.inr (.inl ())))
noncomputable def wala (k : Y1 × Y1) (v : Int) : Option ((Unit) ⊕ (Unit)) := iter (fun v => (wns k v).ev) v
noncomputable def waby : LD := ⟨(yh [0, 1, 5] (yj [.dat y1, .dat y1, .dat yi])), [(0, (yh [] .nil))], (yh [4] (yj [.dat .bool])), Y1 × Y1, Int, (Unit) ⊕ (Unit), fun k v => ((k.1, (k.2, (v, ()))), ()), fun t => (t.1.1, t.1.2.1), fun t => t.1.2.2.1, wns, fun _ r => .s (Unit) (Unit) r (fun _ => .l (.exit 0 (wal ((ys [] .nil)) ((), ())))) (fun _ => .l (.ret (wal ((ys [4] (yj [.dat .bool]))) ((false, ()), ()))))⟩
noncomputable def wbek (a1_ : Y1) (a2_ : Y1) : Tr (Bool) :=
 .t (((length a1_ : Nat) : Int) != ((length a2_ : Nat) : Int))
 (.l false)
 (.c ((Unit) ⊕ (Unit)) (wala (a1_, a2_) (0 : Int)) fun r5_ =>
 .s (Unit) (Unit) r5_
 (fun _ => .l true)
 (fun _ => .l false))
noncomputable def wafw (a1_ : Y1) (a2_ : Y1) : Option (Bool) := (wbek a1_ a2_).ev
noncomputable def wbxr : RetK := yr [.tmp 4] (yj [.dat .bool])
noncomputable def wauj : FD := yd (yj [.dat y1, .dat y1]) [] [] Bool (fun x => wafw x.1.1 x.1.2.1) (fun r => ([.dat .bool r], []))
noncomputable def wbel : Env := wab []
noncomputable def wbem : List (Nat × LD) := [(0, waby)]
noncomputable def wauk : Code := (f19.body).getD .skip
noncomputable def T_zi (a1_ : Y1) (a2_ : List Y1) : Tr (Int) :=
 .c (Int) (F_zv a2_ a1_) fun r1_ =>
 .l (wrap .i64 (0 - r1_))
noncomputable def F_zi (a1_ : Y1) (a2_ : List Y1) : Option (Int) := (T_zi a1_ a2_).ev
noncomputable def K_zi : RetK := yr [.tmp 3] (yj [.dat yi])
noncomputable def D_zi : FD := yd (yj [.dat y1, .ptr (yj [.dat y2])]) [] [] Int (fun x => F_zi x.1.1 x.1.2.1.1) (fun r => ([.dat yi r], []))
noncomputable def wnt (k : Y1 × (Int × Int)) (v : Int) : Tr ((Int) ⊕ ((Unit) ⊕ (Int))) :=
 .t (decide (v < k.2.2))
 (.g (inR v (length k.1)) <|
 .t (k.2.1 == (getD k.1 (toNat v) 0))
 (.l (.inr (.inr v)))
 (.l (.inl (wrap .i64 (v + 1)))))
 (.l (.inr (.inl ())))
noncomputable def walb (k : Y1 × (Int × Int)) (v : Int) : Option ((Unit) ⊕ (Int)) := iter (fun v => (wnt k v).ev) v
noncomputable def wabz : LD := ⟨(yh [0, 1, 7, 8] (yj [.dat y1, .dat yi, .dat yi, .dat yi])), [(0, (yh [] .nil))], (yh [4] (yj [.dat yi])), Y1 × (Int × Int), Int, (Unit) ⊕ (Int), fun k v => ((k.1, (k.2.1, (k.2.2, (v, ())))), ()), fun t => (t.1.1, (t.1.2.1, t.1.2.2.1)), fun t => t.1.2.2.2.1, wnt, fun _ r => .s (Unit) (Int) r (fun _ => .l (.exit 0 (wal ((ys [] .nil)) ((), ())))) (fun b => .l (.ret (wal ((ys [4] (yj [.dat yi]))) ((b, ()), ()))))⟩
noncomputable def wben (a1_ : Y1) (a2_ : Int) : Tr (Int) :=
 .c ((Unit) ⊕ (Int)) (walb (a1_, (a2_, ((length a1_ : Nat) : Int))) (0 : Int)) fun r6_ =>
 .s (Unit) (Int) r6_
 (fun _ => .l (-1 : Int))
 (fun r8_ => .l r8_)
noncomputable def wbeo (a1_ : Y1) (a2_ : Int) : Option (Int) := (wben a1_ a2_).ev
noncomputable def wbxu : RetK := yr [.tmp 4] (yj [.dat yi])
noncomputable def wbep : FD := yd (yj [.dat y1, .dat yi]) [] [] Int (fun x => wbeo x.1.1 x.1.2.1) (fun r => ([.dat yi r], []))
noncomputable def wbeq : Env := wab []
noncomputable def wber : List (Nat × LD) := [(0, wabz)]
noncomputable def waul : Code := (f199.body).getD .skip
noncomputable def wbes (a1_ : Y1) (a2_ : Int) : Tr (Bool) :=
 .c (Int) (wbeo a1_ a2_) fun r1_ =>
 .l (decide (0 ≤ r1_))
noncomputable def waum (a1_ : Y1) (a2_ : Int) : Option (Bool) := (wbes a1_ a2_).ev
noncomputable def wbxv : RetK := yr [.tmp 4] (yj [.dat .bool])
noncomputable def wbet : FD := yd (yj [.dat y1, .dat yi]) [] [] Bool (fun x => waum x.1.1 x.1.2.1) (fun r => ([.dat .bool r], []))
noncomputable def wuy (k : Int × (Int × (Int × (Int × (Int × (Int × (Int × (Y2 × Y1)))))))) (v : Int × Int) : Tr ((Int × Int) ⊕ (Int)) :=
 .t (decide (v.2 < k.2.2.2.2.2.2.1))
 (.g (inR v.2 (length k.2.2.2.2.2.2.2.2)) <|
 .g (decide ((toNat v.2) < length k.2.2.2.2.2.2.2.2)) <|
 .g (inR k.2.2.2.1 (length k.2.2.2.2.2.2.2.1)) <|
 .g (inR (getD k.2.2.2.2.2.2.2.2 (toNat v.2) 0) (length (getD k.2.2.2.2.2.2.2.1 (toNat k.2.2.2.1) ([] : Y1)))) <|
 .l (.inl ((if (getD (getD k.2.2.2.2.2.2.2.1 (toNat k.2.2.2.1) ([] : Y1)) (toNat (getD k.2.2.2.2.2.2.2.2 (toNat v.2) 0)) (0 : Int)) < v.1 then (getD (getD k.2.2.2.2.2.2.2.1 (toNat k.2.2.2.1) ([] : Y1)) (toNat (getD k.2.2.2.2.2.2.2.2 (toNat v.2) 0)) (0 : Int)) else v.1), (wrap .i64 (v.2 + 1)))))
 (.l (.inr v.1))
noncomputable def wazd (k : Int × (Int × (Int × (Int × (Int × (Int × (Int × (Y2 × Y1)))))))) (v : Int × Int) : Option (Int) := iter (fun v => (wuy k v).ev) v
noncomputable def walc : LD := ⟨{ acts := [], S := { slots := [1, 2, 6, 7, 8, 9, 10, 33, 34, 40, 41, 42], sh := (yj [.dat yi, .box 2 0, .arr 1728, .dat yi, .dat yi, .dat yi, .dat yi, .dat yi, .dat yi, .arr 1728, .dat yi, .dat yi]), obs := [(2, .cells (yj [.dat y2])), (1728, .arr 3 yi)] } }, [(4, { acts := [], S := { slots := [1, 2, 6, 7, 8, 9, 10, 33, 34], sh := (yj [.dat yi, .box 2 0, .arr 1728, .dat yi, .dat yi, .dat yi, .dat yi, .dat yi, .dat yi]), obs := [(2, .cells (yj [.dat y2])), (1728, .arr 3 yi)] } })], (yh [] .nil), Int × (Int × (Int × (Int × (Int × (Int × (Int × (Y2 × Y1))))))), Int × (Int), Int, fun k v => ((k.1, ((), ((), (k.2.1, (k.2.2.1, (k.2.2.2.1, (v.1, (k.2.2.2.2.1, (k.2.2.2.2.2.1, ((), (k.2.2.2.2.2.2.1, (v.2, ())))))))))))), ((k.2.2.2.2.2.2.2.1, ()), (k.2.2.2.2.2.2.2.2, ()))), fun t => (t.1.1, (t.1.2.2.2.1, (t.1.2.2.2.2.1, (t.1.2.2.2.2.2.1, (t.1.2.2.2.2.2.2.2.1, (t.1.2.2.2.2.2.2.2.2.1, (t.1.2.2.2.2.2.2.2.2.2.2.1, (t.2.1.1, t.2.2.1)))))))), fun t => (t.1.2.2.2.2.2.2.1, t.1.2.2.2.2.2.2.2.2.2.2.2.1), wuy, fun k r => .l (.exit 4 (wal ({ slots := [1, 2, 6, 7, 8, 9, 10, 33, 34], sh := (yj [.dat yi, .box 2 0, .arr 1728, .dat yi, .dat yi, .dat yi, .dat yi, .dat yi, .dat yi]), obs := [(2, .cells (yj [.dat y2])), (1728, .arr 3 yi)] }) ((k.1, ((), ((), (k.2.1, (k.2.2.1, (k.2.2.2.1, (r, (k.2.2.2.2.1, (k.2.2.2.2.2.1, ()))))))))), ((k.2.2.2.2.2.2.2.1, ()), (k.2.2.2.2.2.2.2.2, ())))))⟩
noncomputable def wkz (k : Int × (Int × (Y2 × Y1))) (v : Int × (Int × Int)) : Tr ((Int × (Int × Int)) ⊕ (Int)) :=
 .t (decide (v.2.2 < k.2.1))
 (.c (Bool) (waum k.2.2.2 v.2.2) fun r17_ =>
 .t r17_
 (.l (.inl (v.1, (v.2.1, (wrap .i64 (v.2.2 + 1))))))
 (.c (Int) (wazd (k.1, (v.1, (v.2.1, (v.2.2, (k.2.1, (v.2.2, (((length k.2.2.2 : Nat) : Int), (k.2.2.1, k.2.2.2)))))))) ((99 : Int), (0 : Int))) fun r38_ =>
 .t (decide (v.2.1 < r38_))
 (.l (.inl (v.2.2, (r38_, (wrap .i64 (v.2.2 + 1))))))
 (.l (.inl (v.1, (v.2.1, (wrap .i64 (v.2.2 + 1))))))))
 (.l (.inr v.1))
noncomputable def waze (k : Int × (Int × (Y2 × Y1))) (v : Int × (Int × Int)) : Option (Int) := iter (fun v => (wkz k v).ev) v
noncomputable def wald : LD := ⟨{ acts := [], S := { slots := [1, 2, 6, 7, 8, 33, 34], sh := (yj [.dat yi, .box 2 0, .arr 1728, .dat yi, .dat yi, .dat yi, .dat yi]), obs := [(2, .cells (yj [.dat y2])), (1728, .arr 3 yi)] } }, [(2, { acts := [], S := { slots := [1, 2, 6, 7], sh := (yj [.dat yi, .box 2 0, .arr 1728, .dat yi]), obs := [(2, .cells (yj [.dat y2])), (1728, .arr 3 yi)] } })], (yh [] .nil), Int × (Int × (Y2 × Y1)), Int × (Int × Int), Int, fun k v => ((k.1, ((), ((), (v.1, (v.2.1, (k.2.1, (v.2.2, ()))))))), ((k.2.2.1, ()), (k.2.2.2, ()))), fun t => (t.1.1, (t.1.2.2.2.2.2.1, (t.2.1.1, t.2.2.1))), fun t => (t.1.2.2.2.1, (t.1.2.2.2.2.1, t.1.2.2.2.2.2.2.1)), wkz, fun k r => .l (.exit 2 (wal ({ slots := [1, 2, 6, 7], sh := (yj [.dat yi, .box 2 0, .arr 1728, .dat yi]), obs := [(2, .cells (yj [.dat y2])), (1728, .arr 3 yi)] }) ((k.1, ((), ((), (r, ())))), ((k.2.2.1, ()), (k.2.2.2, ())))))⟩
noncomputable def wuz (k : Int × Y2) (v : Y1) : Tr (Y1 ⊕ Y1) :=
 .t (decide (((length v : Nat) : Int) < k.1))
 (.c (Int) (waze (k.1, (((length k.2 : Nat) : Int), (k.2, v))) ((-1 : Int), ((-1 : Int), (0 : Int)))) fun r43_ =>
 .g (decide ((length v + length ([r43_] : Y1)) * 8 ≤ 140737488355328)) <|
 .l (.inl (v ++ ([r43_] : Y1))))
 (.l (.inr v))
noncomputable def wazf (k : Int × Y2) (v : Y1) : Option Y1 := iter (fun v => (wuz k v).ev) v
noncomputable def wale : LD := ⟨{ acts := [], S := { slots := [1, 2, 6], sh := (yj [.dat yi, .box 2 0, .arr 1728]), obs := [(2, .cells (yj [.dat y2])), (1728, .arr 3 yi)] } }, [(0, { acts := [], S := { slots := [6], sh := (yj [.arr 1728]), obs := [(1728, .arr 3 yi)] } })], (yh [] .nil), Int × Y2, Y1, Y1, fun k v => ((k.1, ((), ((), ()))), ((k.2, ()), (v, ()))), fun t => (t.1.1, t.2.1.1), fun t => t.2.2.1, wuz, fun _ r => .l (.exit 0 (wal ({ slots := [6], sh := (yj [.arr 1728]), obs := [(1728, .arr 3 yi)] }) (((), ()), (r, ()))))⟩
noncomputable def T_zh (a1_ : List Y1) (a2_ : Int) : Tr (Bool × Y1) :=
 .c (Bool) (F_zj a1_) fun r1_ =>
 .t (!r1_)
 (.l (false, ([] : Y1)))
 (.c (Bool) (F_zt a2_ (2 : Int) ((length a1_ : Nat) : Int)) fun r2_ =>
 .t (!r2_)
 (.l (false, ([] : Y1)))
 (.c ((List Nat) × Y2) (wakm ((length a1_ : Nat) : Int) (2 : Int)) fun r3_ =>
 .c Y1 (wako (fun h4_ => Option.bind (F_zi h4_.1 a1_) fun y5_ => some y5_) r3_) fun r6_ =>
 .c Y1 (wazf (a2_, a1_) r6_) fun r45_ =>
 .l (true, r45_)))
noncomputable def F_zh (a1_ : List Y1) (a2_ : Int) : Option (Bool × Y1) := (T_zh a1_ a2_).ev
noncomputable def K_zh : RetK := { acts := [.own 4 0 3 yi, .ren 1728 0], res := [.tmp 4, .tmp 5], sh := (yj [.arr 0, .dat .bool]), obs := [(0, .arr 3 yi)], pins := [] }
noncomputable def D_zh : FD := yd (yj [.dat y2, .dat yi]) [] [] (Bool × Y1) (fun x => F_zh x.1.1 x.1.2.1) (fun r => ([.arr 0, .dat .bool r.1], [(0, .arr 3 yi r.2)]))
noncomputable def E_zh : Env := wab [(30, D_zj), (104, D_zt), (105, wato), (94, wafr), (111, wbet), (94, wafr), (110, D_zi)]
noncomputable def O_zh : List (Nat × LD) := [(4, walc), (2, wald), (0, wale)]
noncomputable def C_zh : Code := (f26.body).getD .skip
end Go.Proofs.YtnagpmhaddfgmaaGreat
