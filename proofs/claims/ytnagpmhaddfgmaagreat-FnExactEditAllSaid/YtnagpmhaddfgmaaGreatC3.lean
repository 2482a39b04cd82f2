import Derived.Test.YtnagpmhaddfgmaaGreatB37
import Derived.Test.YtnagpmhaddfgmaaGreatB43
import Derived.Test.YtnagpmhaddfgmaaGreatB45
import Derived.Test.YtnagpmhaddfgmaaGreatProg
namespace Go.Proofs.YtnagpmhaddfgmaaGreat
open Go.Proofs.Tryz
open List (length getD set)
open Int (toNat)
open IntKind (wrap)
abbrev yi : Ty := .int .i64
abbrev y1 : Ty := .slice yi
abbrev y2 : Ty := .slice y1
abbrev y3 : Ty := .slice y2
abbrev Y1 : Type := List Int
abbrev Y2 : Type := List Y1
abbrev Y3 : Type := List Y2
abbrev yh (l : List Nat) (s : Sh) : Keep := { acts := [], S := { slots := l, sh := s, obs := [] } }
abbrev ys (l : List Nat) (s : Sh) : SSh := { slots := l, sh := s, obs := [] }
abbrev yd (A : Sh) (I : List (Nat × OSh)) (L : List LP) (R : Type) (F : A.I × OL I → Option R) (e : R → List AV × List (Nat × Ob)) : FD := { A := A, ins := I, lend := L, R := R, F := F, emb := e }
abbrev yr (r : List ResultVar) (s : Sh) : RetK := { acts := [], res := r, sh := s, obs := [], pins := [] }
abbrev yj : List Sh → Sh
  | [] => .nil
  | a :: l => .cons a (yj l)
abbrev Za : List UInt8 := ([0, 1, 2, 2, 3, 3, 3, 3, 4, 4, 4, 4, 4, 4, 4, 4, 5, 5, 5, 5, 5, 5, 5, 5, 5, 5, 5, 5, 5, 5, 5, 5, 6, 6, 6, 6, 6, 6, 6, 6, 6, 6, 6, 6, 6, 6, 6, 6, 6, 6, 6, 6, 6, 6, 6, 6, 6, 6, 6, 6, 6, 6, 6, 6, 7, 7, 7, 7, 7, 7, 7, 7, 7, 7, 7, 7, 7, 7, 7, 7, 7, 7, 7, 7, 7, 7, 7, 7, 7, 7, 7, 7, 7, 7, 7, 7, 7, 7, 7, 7, 7, 7, 7, 7, 7, 7, 7, 7, 7, 7, 7, 7, 7, 7, 7, 7, 7, 7, 7, 7, 7, 7, 7, 7, 7, 7, 7, 7, 8, 8, 8, 8, 8, 8, 8, 8, 8, 8, 8, 8, 8, 8, 8, 8, 8, 8, 8, 8, 8, 8, 8, 8, 8, 8, 8, 8, 8, 8, 8, 8, 8, 8, 8, 8, 8, 8, 8, 8, 8, 8, 8, 8, 8, 8, 8, 8, 8, 8, 8, 8, 8, 8, 8, 8, 8, 8, 8, 8, 8, 8, 8, 8, 8, 8, 8, 8, 8, 8, 8, 8, 8, 8, 8, 8, 8, 8, 8, 8, 8, 8, 8, 8, 8, 8, 8, 8, 8, 8, 8, 8, 8, 8, 8, 8, 8, 8, 8, 8, 8, 8, 8, 8, 8, 8, 8, 8, 8, 8, 8, 8, 8, 8, 8, 8, 8, 8, 8, 8, 8, 8, 8, 8, 8, 8, 8, 8] : List UInt8)
abbrev Zb : Nat := IntKind.bits .u64
abbrev Yc : Type := (List Nat) × Y2
abbrev Ze : Sh := yj [.dat y1, .dat y2]
abbrev Yf : Type := HL [y1, y1] → Option (Int)
abbrev Zg : Sh := yj [.dat yi]
abbrev Yh : Type := Int × (Y1 × (Y2 × Y1))
abbrev Yi : Type := Y1 × (Y2 × Int)
abbrev Zj : Sh := yj [.dat y1, .dat y2, .dat y1, .dat yi]
abbrev Zk : Nat × OSh := (4, .cells (yj [.nilsl, .nilsl, .nilsl, .dat yi]))
abbrev Zl : Sh := yj [.dat .bool]
abbrev Zn : Sh := yj [.box 64 0, .box 65 0, .box 66 0]
abbrev Zo : Sh := yj [.arr 64, .dat yi, .clo [y1, y1] yi, .dat yi, .dat yi]
abbrev Zp : Nat × OSh := (64, .perm 24 3 yi)
abbrev Yq : Type := Int × Int
abbrev Zr : Sh := yj [.dat yi, .dat yi, .dat yi, .dat yi, .dat y1]
abbrev Yt : Type := Int × (Bool × (Y1 × (Y2 × Y1)))
abbrev Yu : Type := Y1 × (Y2 × (Y1 × Int))
abbrev Yv : Type := Y1 × Y2
abbrev Zw : Nat × OSh := (66, .cells (yj [.nilsl]))
abbrev Zx : Nat × OSh := (4, .cells (yj [.arr 901340, .nilsl, .arr 901342, .dat yi]))
abbrev Zy : Nat × OSh := (6, .cells (yj [.arr 13888, .arr 1860, .arr 1861, .dat yi]))
abbrev Zz : Nat × OSh := (64, .cells Ze)
abbrev Zaa : Nat × OSh := (65, .cells Zg)
abbrev Yab : Type := Int × Y1
abbrev Zac : Nat × OSh := (5, .cells (yj [.arr 896, .arr 581, .arr 582, .dat yi]))
abbrev Yad : Type := Int × (Bool × Yc)
abbrev Zae : Sh := yj [.dat y1, .dat yi, .dat yi]
abbrev Zaf : Sh := yj [.dat y1, .box 2 0, .arr 11, .arr 12, .arr 13, .dat yi]
abbrev Yag : Type := Int × (Int × (Y1 × (Y1 × (Y1 × Y1))))
abbrev Zah : Sh := yj [.dat (.int .u64)]
abbrev Yai : Type := (Yf) × (Int × Yc)
abbrev Zaj : Sh := yj [.arr 900670, .arr 900671, .arr 900672, .dat yi]
abbrev Yak : Type := Bool × Y1
abbrev Zal : Nat × OSh := (0, .arr 3 yi)
abbrev Yam : Type := Int × Y2
abbrev Zan : Sh := yj [.arr 0]
abbrev Yao : Type := Int × (Int × (Int × (Y1 × Y1)))
abbrev Yd : Type := Int × (Int × (Int × Yab))
abbrev Ym : Type := Y1 × (Y2 × Yab)
noncomputable def tabl : List (Nat × TD) := [(3, .sc yi), (4, .sc .bool), (5, .sc (.int .u8)), (9, .sc .str), (24, .sl 3 yi 8), (25, .sl 24 y1 24), (27, .st (.pair y1 y2) [(24, y1), (25, y2)]), (60, .st (.pair y1 y2) [(24, y1), (25, y2)]), (62, .st (.pair (.pair y1 y2) (.pair y1 yi)) [(60, (.pair y1 y2)), (24, y1), (3, yi)]), (64, .st (.pair yi (.pair yi (.pair yi (.pair yi y1)))) [(3, yi), (3, yi), (3, yi), (3, yi), (24, y1)]), (68, .st (.pair (.pair y1 y2) (.pair y1 yi)) [(27, (.pair y1 y2)), (24, y1), (3, yi)]), (72, .st (.pair yi (.pair yi (.pair yi (.pair yi y1)))) [(3, yi), (3, yi), (3, yi), (3, yi), (24, y1)]), (79, .sl 64 (.pair yi (.pair yi (.pair yi (.pair yi y1)))) 56), (83, .sl 72 (.pair yi (.pair yi (.pair yi (.pair yi y1)))) 56), (108, .sc (.int .u64)), (145, .sc (.int .u64)), (220, .sc (.int .u64))]
noncomputable def tt : Nat → TD := fun i => match look tabl i with
 | some d => d
 | none => .no
noncomputable def wnw (a1_ : Y1) (a2_ : Int) : Tr (Int) :=
 .t (decide ((wrap .i64 (a2_ - ((length a1_ : Nat) : Int))) < (0 : Int)))
 (.l (-1 : Int))
 (.l (wrap .i64 (a2_ - ((length a1_ : Nat) : Int))))
noncomputable def wcf (a1_ : Y1) (a2_ : Int) : Option (Int) := (wnw a1_ a2_).ev
noncomputable def wagw : RetK := yr [.tmp 4] Zg
noncomputable def wfw : FD := yd (yj [.dat y1, .dat yi]) [] [] Int (fun x => wcf x.1.1 x.1.2.1) (fun r => ([.dat yi r], []))
noncomputable def waq (k : List Y1) (v : Int × Int) : Tr (Yq ⊕ ((Int) ⊕ (Unit))) :=
 .t (decide (v.2 < ((length k : Nat) : Int)))
 (.g (inR v.2 (length k)) <|
 .c (Int) (wcf (getD k (toNat v.2) ([] : Y1)) v.1) fun r4_ =>
 .t (decide (r4_ < 0))
 (.l (.inr (.inr ())))
 (.l (.inl (r4_, (wrap .i64 (v.2 + 1))))))
 (.l (.inr (.inl v.1)))
noncomputable def wcx (k : List Y1) (v : Int × Int) : Option ((Int) ⊕ (Unit)) := iter (fun v => (waq k v).ev) v
noncomputable def wdo : LD := ⟨(yh [0, 1, 5] (yj [.dat y2, .dat yi, .dat yi])), [(0, (yh [1] Zg))], (yh [4] Zg), List Y1, Int × (Int), (Int) ⊕ (Unit), fun k v => ((k, (v.1, (v.2, ()))), ()), fun t => t.1.1, fun t => (t.1.2.1, t.1.2.2.1), waq, fun _ r => .s (Int) (Unit) r (fun a => .l (.exit 0 (mkSt ((ys [1] Zg)) ((a, ()), ())))) (fun _ => .l (.ret (mkSt ((ys [4] Zg)) (((-1 : Int), ()), ()))))⟩
noncomputable def wnx (a1_ : List Y1) (a2_ : Int) : Tr (Int) :=
 .t (decide ((wrap .i64 (a2_ - ((length a1_ : Nat) : Int))) < (0 : Int)))
 (.l (-1 : Int))
 (.c ((Int) ⊕ (Unit)) (wcx a1_ ((wrap .i64 (a2_ - ((length a1_ : Nat) : Int))), (0 : Int))) fun r7_ =>
 .s (Int) (Unit) r7_
 (fun r8_ => .l r8_)
 (fun _ => .l (-1 : Int)))
noncomputable def wjv (a1_ : List Y1) (a2_ : Int) : Option (Int) := (wnx a1_ a2_).ev
noncomputable def wagx : RetK := yr [.tmp 4] Zg
noncomputable def wny : FD := yd (yj [.dat y2, .dat yi]) [] [] Int (fun x => wjv x.1.1 x.1.2.1) (fun r => ([.dat yi r], []))
noncomputable def wnz : Env := envOf [(134, wfw)]
noncomputable def woa : List (Nat × LD) := [(0, wdo)]
noncomputable def wob : Code := (f208.body).getD .skip
noncomputable def woc (a1_ : Y1) (a2_ : List Y1) (a3_ : Int) : Tr (Int) :=
 .c (Int) (wcf a1_ a3_) fun r1_ =>
 .t (decide (r1_ < 0))
 (.l (-1 : Int))
 (.c (Int) (wjv a2_ r1_) fun r2_ =>
 .t (decide (r2_ < 0))
 (.l (-1 : Int))
 (.l r2_))
noncomputable def wjw (a1_ : Y1) (a2_ : List Y1) (a3_ : Int) : Option (Int) := (woc a1_ a2_ a3_).ev
noncomputable def wagy : RetK := yr [.tmp 4] Zg
noncomputable def wod : FD := yd (yj [.agg Ze, .dat yi]) [] [] Int (fun x => wjw x.1.1.1 x.1.1.2.1 x.1.2.1) (fun r => ([.dat yi r], []))
noncomputable def woe (a1_ : Y1) (a2_ : List Y1) (a3_ : Y1) (_a4_ : Int) (a5_ : Int) : Tr (Int) :=
 .c (Int) (wjw a1_ a2_ a5_) fun r1_ =>
 .t (decide (r1_ < 0))
 (.l (-1 : Int))
 (.c (Int) (wcf a3_ r1_) fun r2_ =>
 .t (decide (r2_ < 0))
 (.l (-1 : Int))
 (.l r2_))
noncomputable def wjx (a1_ : Y1) (a2_ : List Y1) (a3_ : Y1) (a4_ : Int) (a5_ : Int) : Option (Int) := (woe a1_ a2_ a3_ a4_ a5_).ev
noncomputable def wagz : RetK := yr [.tmp 4] Zg
noncomputable def wof : FD := yd (yj [.agg Zj, .dat yi]) [] [] Int (fun x => wjx x.1.1.1 x.1.1.2.1 x.1.1.2.2.1 x.1.1.2.2.2.1 x.1.2.1) (fun r => ([.dat yi r], []))
noncomputable def wog (_a1_ : Int) (_a2_ : Int) (_a3_ : Int) (_a4_ : Int) (a5_ : Y1) (a6_ : Int) : Tr (Int) :=
 .c (Int) (wcf a5_ a6_) fun r1_ =>
 .t (decide (r1_ < 0))
 (.l (-1 : Int))
 (.l r1_)
noncomputable def wjy (a1_ : Int) (a2_ : Int) (a3_ : Int) (a4_ : Int) (a5_ : Y1) (a6_ : Int) : Option (Int) := (wog a1_ a2_ a3_ a4_ a5_ a6_).ev
noncomputable def waha : RetK := yr [.tmp 4] Zg
noncomputable def woh : FD := yd (yj [.agg Zr, .dat yi]) [] [] Int (fun x => wjy x.1.1.1 x.1.1.2.1 x.1.1.2.2.1 x.1.1.2.2.2.1 x.1.1.2.2.2.2.1 x.1.2.1) (fun r => ([.dat yi r], []))
noncomputable def wab (k : List Yd) (v : Int × Int) : Tr (Yq ⊕ ((Int) ⊕ (Unit))) :=
 .t (decide (v.2 < ((length k : Nat) : Int)))
 (.g (inR v.2 (length k)) <|
 .c (Int) (wjy ((getD k (toNat v.2) ((0 : Int), ((0 : Int), ((0 : Int), ((0 : Int), ([] : Y1)))))).1) ((getD k (toNat v.2) ((0 : Int), ((0 : Int), ((0 : Int), ((0 : Int), ([] : Y1)))))).2.1) ((getD k (toNat v.2) ((0 : Int), ((0 : Int), ((0 : Int), ((0 : Int), ([] : Y1)))))).2.2.1) ((getD k (toNat v.2) ((0 : Int), ((0 : Int), ((0 : Int), ((0 : Int), ([] : Y1)))))).2.2.2.1) ((getD k (toNat v.2) ((0 : Int), ((0 : Int), ((0 : Int), ((0 : Int), ([] : Y1)))))).2.2.2.2) v.1) fun r4_ =>
 .t (decide (r4_ < 0))
 (.l (.inr (.inr ())))
 (.l (.inl (r4_, (wrap .i64 (v.2 + 1))))))
 (.l (.inr (.inl v.1)))
noncomputable def wcy (k : List Yd) (v : Int × Int) : Option ((Int) ⊕ (Unit)) := iter (fun v => (wab k v).ev) v
noncomputable def wdp : LD := ⟨(yh [0, 1, 5] (yj [.dat (.slice (.pair yi (.pair yi (.pair yi (.pair yi y1))))), .dat yi, .dat yi])), [(0, (yh [1] Zg))], (yh [4] Zg), List Yd, Int × (Int), (Int) ⊕ (Unit), fun k v => ((k, (v.1, (v.2, ()))), ()), fun t => t.1.1, fun t => (t.1.2.1, t.1.2.2.1), wab, fun _ r => .s (Int) (Unit) r (fun a => .l (.exit 0 (mkSt ((ys [1] Zg)) ((a, ()), ())))) (fun _ => .l (.ret (mkSt ((ys [4] Zg)) (((-1 : Int), ()), ()))))⟩
noncomputable def woi (a1_ : List Yd) (a2_ : Int) : Tr (Int) :=
 .t (decide ((wrap .i64 (a2_ - ((length a1_ : Nat) : Int))) < (0 : Int)))
 (.l (-1 : Int))
 (.c ((Int) ⊕ (Unit)) (wcy a1_ ((wrap .i64 (a2_ - ((length a1_ : Nat) : Int))), (0 : Int))) fun r7_ =>
 .s (Int) (Unit) r7_
 (fun r8_ => .l r8_)
 (fun _ => .l (-1 : Int)))
noncomputable def wjz (a1_ : List Yd) (a2_ : Int) : Option (Int) := (woi a1_ a2_).ev
noncomputable def wahb : RetK := yr [.tmp 4] Zg
noncomputable def woj : FD := yd (yj [.dat (.slice (.pair yi (.pair yi (.pair yi (.pair yi y1))))), .dat yi]) [] [] Int (fun x => wjz x.1.1 x.1.2.1) (fun r => ([.dat yi r], []))
noncomputable def wok : Env := envOf [(41, woh)]
noncomputable def wol : List (Nat × LD) := [(0, wdp)]
noncomputable def wom : Code := (f51.body).getD .skip
noncomputable def war (k : Y1) (v : Int × Y1) : Tr (Yab ⊕ Y1) :=
 .t (decide (v.1 < ((length k : Nat) : Int)))
 (.g (inR v.1 (length k)) <|
 .g (inR v.1 (length v.2)) <|
 .g (decide ((toNat v.1) < length v.2)) <|
 .l (.inl ((wrap .i64 (v.1 + 1)), (set v.2 (toNat v.1) (getD k (toNat v.1) 0)))))
 (.l (.inr v.2))
noncomputable def wgg (k : Y1) (v : Int × Y1) : Option Y1 := iter (fun v => (war k v).ev) v
noncomputable def wdq : LD := ⟨{ acts := [], S := { slots := [0, 3, 4], sh := (yj [.dat y1, .arr 7, .dat yi]), obs := [(7, .arr 3 yi)] } }, [(0, { acts := [], S := { slots := [3], sh := (yj [.arr 7]), obs := [(7, .arr 3 yi)] } })], (yh [] .nil), Y1, Int × Y1, Y1, fun k v => ((k, ((), (v.1, ()))), (v.2, ())), fun t => t.1.1, fun t => (t.1.2.2.1, t.2.1), war, fun _ r => .l (.exit 0 (mkSt ({ slots := [3], sh := (yj [.arr 7]), obs := [(7, .arr 3 yi)] }) (((), ()), (r, ()))))⟩
noncomputable def won (a1_ : Y1) : Tr Y1 :=
 .g (decide ((0 : Int) ≤ ((length a1_ : Nat) : Int)) && decide (((length a1_ : Nat) : Int) ≤ ((length a1_ : Nat) : Int)) && decide (((8 : Nat) : Int) * ((length a1_ : Nat) : Int) ≤ 281474976710656)) <|
 .c Y1 (wgg a1_ ((0 : Int), (List.replicate (toNat ((length a1_ : Nat) : Int)) (0 : Int)))) fun r5_ =>
 .l r5_
noncomputable def wcz (a1_ : Y1) : Option Y1 := (won a1_).ev
noncomputable def wahc : RetK := { acts := [.ren 7 0], res := [.tmp 2], sh := Zan, obs := [Zal], pins := [] }
noncomputable def wfx : FD := yd (yj [.dat y1]) [] [] Y1 (fun x => wcz x.1.1) (fun r => ([.arr 0], [(0, .arr 3 yi r)]))
noncomputable def woo : Env := envOf []
noncomputable def wop : List (Nat × LD) := [(0, wdq)]
noncomputable def woq : Code := (f138.body).getD .skip
noncomputable def wat (k : List Y1) (v : Int × Y2) : Tr (Yam ⊕ Y2) :=
 .t (decide (v.1 < ((length k : Nat) : Int)))
 (.g (inR v.1 (length k)) <|
 .c Y1 (wcz (getD k (toNat v.1) ([] : Y1))) fun r4_ =>
 .g (inR v.1 (length v.2)) <|
 .g (decide ((toNat v.1) < length v.2)) <|
 .l (.inl ((wrap .i64 (v.1 + 1)), (set v.2 (toNat v.1) r4_))))
 (.l (.inr v.2))
noncomputable def wgh (k : List Y1) (v : Int × Y2) : Option Y2 := iter (fun v => (wat k v).ev) v
noncomputable def wdr : LD := ⟨{ acts := [], S := { slots := [0, 3, 4], sh := (yj [.dat y2, .arr 7, .dat yi]), obs := [(7, .rows 24 3 yi)] } }, [(0, { acts := [], S := { slots := [3], sh := (yj [.arr 7]), obs := [(7, .rows 24 3 yi)] } })], (yh [] .nil), List Y1, Int × Y2, List Y1, fun k v => ((k, ((), (v.1, ()))), (v.2, ())), fun t => t.1.1, fun t => (t.1.2.2.1, t.2.1), wat, fun _ r => .l (.exit 0 (mkSt ({ slots := [3], sh := (yj [.arr 7]), obs := [(7, .rows 24 3 yi)] }) (((), ()), (r, ()))))⟩
noncomputable def wor (a1_ : List Y1) : Tr Y2 :=
 .g (decide ((0 : Int) ≤ ((length a1_ : Nat) : Int)) && decide (((length a1_ : Nat) : Int) ≤ ((length a1_ : Nat) : Int)) && decide (((24 : Nat) : Int) * ((length a1_ : Nat) : Int) ≤ 281474976710656)) <|
 .c Y2 (wgh a1_ ((0 : Int), (List.replicate (toNat ((length a1_ : Nat) : Int)) ([] : Y1)))) fun r6_ =>
 .l r6_
noncomputable def wkc (a1_ : List Y1) : Option Y2 := (wor a1_).ev
noncomputable def wahd : RetK := { acts := [.ren 7 0], res := [.tmp 2], sh := Zan, obs := [(0, .rows 24 3 yi)], pins := [] }
noncomputable def wos : FD := yd (yj [.dat y2]) [] [] (List Y1) (fun x => wkc x.1.1) (fun r => ([.arr 0], [(0, .rows 24 3 yi r none)]))
noncomputable def wot : Nat → Nat → List Nat := fun r i => match look [(1, [(2, [1000000])])] r with
 | some l => (look l i).getD []
 | none => []
noncomputable def wou : Env := envOf [(138, wfx)]
noncomputable def wov : List (Nat × LD) := [(0, wdr)]
noncomputable def wow : Code := (f212.body).getD .skip
noncomputable def wox (a1_ : Y1) (a2_ : List Y1) : Tr Yv :=
 .c Y1 (wcz a1_) fun r1_ =>
 .c Y2 (wkc a2_) fun r2_ =>
 .l (r1_, r2_)
noncomputable def wkd (a1_ : Y1) (a2_ : List Y1) : Option Yv := (wox a1_ a2_).ev
noncomputable def wahe : RetK := { acts := [.ren 384 4, .ren 640 5], res := [.cell 2 27], sh := (yj [.agg (yj [.arr 4, .arr 5])]), obs := [(4, .arr 3 yi), (5, .rows 24 3 yi)], pins := [] }
noncomputable def woy : FD := yd (yj [.agg Ze]) [] [] Yv (fun x => wkd x.1.1.1 x.1.1.2.1) (fun r => ([.agg [.arr 4, .arr 5]], [(4, .arr 3 yi r.1), (5, .rows 24 3 yi r.2 none)]))
noncomputable def woz (a1_ : Y1) (a2_ : List Y1) (a3_ : Y1) (a4_ : Int) : Tr Yh :=
 .c Yv (wkd a1_ a2_) fun r1_ =>
 .c Y1 (wcz a3_) fun r2_ =>
 .l (a4_, (r1_.1, (r1_.2, r2_)))
noncomputable def wda (a1_ : Y1) (a2_ : List Y1) (a3_ : Y1) (a4_ : Int) : Option Yh := (woz a1_ a2_ a3_ a4_).ev
noncomputable def wahf : RetK := { acts := [.ren 388 4, .ren 389 5, .ren 640 6], res := [.cell 2 68], sh := (yj [.agg (yj [.arr 4, .arr 5, .arr 6, .dat yi])]), obs := [(4, .arr 3 yi), (5, .rows 24 3 yi), (6, .arr 3 yi)], pins := [] }
noncomputable def wpa : FD := yd (yj [.agg Zj]) [] [] Yh (fun x => wda x.1.1.1 x.1.1.2.1 x.1.1.2.2.1 x.1.1.2.2.2.1) (fun r => ([.agg [.arr 4, .arr 5, .arr 6, .dat yi r.1]], [(4, .arr 3 yi r.2.1), (5, .rows 24 3 yi r.2.2.1 none), (6, .arr 3 yi r.2.2.2)]))
noncomputable def wpb (a1_ : Int) (a2_ : Int) (a3_ : Int) (a4_ : Int) (a5_ : Y1) : Tr Yd :=
 .c Y1 (wcz a5_) fun r1_ =>
 .l (a1_, (a2_, (a3_, (a4_, r1_))))
noncomputable def wke (a1_ : Int) (a2_ : Int) (a3_ : Int) (a4_ : Int) (a5_ : Y1) : Option Yd := (wpb a1_ a2_ a3_ a4_ a5_).ev
noncomputable def wahg : RetK := { acts := [.ren 1152 4], res := [.cell 2 72], sh := (yj [.agg (yj [.dat yi, .dat yi, .dat yi, .dat yi, .arr 4])]), obs := [(4, .arr 3 yi)], pins := [] }
noncomputable def wpc : FD := yd (yj [.agg Zr]) [] [] Yd (fun x => wke x.1.1.1 x.1.1.2.1 x.1.1.2.2.1 x.1.1.2.2.2.1 x.1.1.2.2.2.2.1) (fun r => ([.agg [.dat yi r.1, .dat yi r.2.1, .dat yi r.2.2.1, .dat yi r.2.2.2.1, .arr 4]], [(4, .arr 3 yi r.2.2.2.2)]))
noncomputable def wau (k : List Yd) (v : Int × (List Yd)) : Tr ((Int × (List Yd)) ⊕ (List Yd)) :=
 .t (decide (v.1 < ((length k : Nat) : Int)))
 (.g (inR v.1 (length k)) <|
 .c Yd (wke ((getD k (toNat v.1) ((0 : Int), ((0 : Int), ((0 : Int), ((0 : Int), ([] : Y1)))))).1) ((getD k (toNat v.1) ((0 : Int), ((0 : Int), ((0 : Int), ((0 : Int), ([] : Y1)))))).2.1) ((getD k (toNat v.1) ((0 : Int), ((0 : Int), ((0 : Int), ((0 : Int), ([] : Y1)))))).2.2.1) ((getD k (toNat v.1) ((0 : Int), ((0 : Int), ((0 : Int), ((0 : Int), ([] : Y1)))))).2.2.2.1) ((getD k (toNat v.1) ((0 : Int), ((0 : Int), ((0 : Int), ((0 : Int), ([] : Y1)))))).2.2.2.2)) fun r4_ =>
 .g (inR v.1 (length v.2)) <|
 .g (decide ((toNat v.1) < length v.2)) <|
 .l (.inl ((wrap .i64 (v.1 + 1)), (set v.2 (toNat v.1) r4_))))
 (.l (.inr v.2))
noncomputable def wgi (k : List Yd) (v : Int × (List Yd)) : Option (List Yd) := iter (fun v => (wau k v).ev) v
noncomputable def wds : LD := ⟨{ acts := [], S := { slots := [0, 3, 4], sh := (yj [.dat (.slice (.pair yi (.pair yi (.pair yi (.pair yi y1))))), .arr 7, .dat yi]), obs := [(7, .deep 72 (.pair yi (.pair yi (.pair yi (.pair yi y1)))))] } }, [(0, { acts := [], S := { slots := [3], sh := (yj [.arr 7]), obs := [(7, .deep 72 (.pair yi (.pair yi (.pair yi (.pair yi y1)))))] } })], (yh [] .nil), List Yd, Int × (List Yd), List Yd, fun k v => ((k, ((), (v.1, ()))), (v.2, ())), fun t => t.1.1, fun t => (t.1.2.2.1, t.2.1), wau, fun _ r => .l (.exit 0 (mkSt ({ slots := [3], sh := (yj [.arr 7]), obs := [(7, .deep 72 (.pair yi (.pair yi (.pair yi (.pair yi y1)))))] }) (((), ()), (r, ()))))⟩
noncomputable def wpd (a1_ : List Yd) : Tr (List Yd) :=
 .g (decide ((0 : Int) ≤ ((length a1_ : Nat) : Int)) && decide (((length a1_ : Nat) : Int) ≤ ((length a1_ : Nat) : Int)) && decide (((56 : Nat) : Int) * ((length a1_ : Nat) : Int) ≤ 281474976710656)) <|
 .c (List Yd) (wgi a1_ ((0 : Int), (List.replicate (toNat ((length a1_ : Nat) : Int)) ((0 : Int), ((0 : Int), ((0 : Int), ((0 : Int), ([] : Y1)))))))) fun r6_ =>
 .l r6_
noncomputable def wdb (a1_ : List Yd) : Option (List Yd) := (wpd a1_).ev
noncomputable def wahh : RetK := { acts := [.ren 7 0], res := [.tmp 2], sh := Zan, obs := [(0, .deep 72 (.pair yi (.pair yi (.pair yi (.pair yi y1)))))], pins := [] }
noncomputable def wpe : FD := yd (yj [.dat (.slice (.pair yi (.pair yi (.pair yi (.pair yi y1)))))]) [] [] (List Yd) (fun x => wdb x.1.1) (fun r => ([.arr 0], [(0, .deep 72 (.pair yi (.pair yi (.pair yi (.pair yi y1)))) r)]))
noncomputable def wpf : Nat → Nat → List Nat := fun r i => match look [(1, [(2, [1000000])])] r with
 | some l => (look l i).getD []
 | none => []
noncomputable def wpg : Env := envOf [(44, wpc)]
noncomputable def wph : List (Nat × LD) := [(0, wds)]
noncomputable def wpi : Code := (f53.body).getD .skip
noncomputable def wpj (a1_ : Int) (a2_ : Int) (a3_ : Int) : Tr (Bool) :=
 .t (decide (a2_ ≤ a1_))
 (.l (decide (a1_ ≤ a3_)))
 (.l false)
noncomputable def wac (a1_ : Int) (a2_ : Int) (a3_ : Int) : Option (Bool) := (wpj a1_ a2_ a3_).ev
noncomputable def wahi : RetK := yr [.tmp 6] Zl
noncomputable def wcg : FD := yd (yj [.dat yi, .dat yi, .dat yi]) [] [] Bool (fun x => wac x.1.1 x.1.2.1 x.1.2.2.1) (fun r => ([.dat .bool r], []))
noncomputable def wav (k : Y1 × Yq) (v : Int) : Tr ((Int) ⊕ ((Unit) ⊕ (Unit))) :=
 .t (decide (v < ((length k.1 : Nat) : Int)))
 (.g (inR v (length k.1)) <|
 .c (Bool) (wac (getD k.1 (toNat v) 0) (0 : Int) k.2.2) fun r5_ =>
 .t (!r5_)
 (.l (.inr (.inr ())))
 (.l (.inl (wrap .i64 (v + 1)))))
 (.l (.inr (.inl ())))
noncomputable def wgj (k : Y1 × Yq) (v : Int) : Option ((Unit) ⊕ (Unit)) := iter (fun v => (wav k v).ev) v
noncomputable def wdt : LD := ⟨(yh [0, 1, 2, 7] (yj [.dat y1, .dat yi, .dat yi, .dat yi])), [(0, (yh [0, 1] (yj [.dat y1, .dat yi])))], (yh [6] Zl), Y1 × Yq, Int, (Unit) ⊕ (Unit), fun k v => ((k.1, (k.2.1, (k.2.2, (v, ())))), ()), fun t => (t.1.1, (t.1.2.1, t.1.2.2.1)), fun t => t.1.2.2.2.1, wav, fun k r => .s (Unit) (Unit) r (fun _ => .l (.exit 0 (mkSt ((ys [0, 1] (yj [.dat y1, .dat yi]))) ((k.1, (k.2.1, ())), ())))) (fun _ => .l (.ret (mkSt ((ys [6] Zl)) ((false, ()), ()))))⟩
noncomputable def wpk (a1_ : Y1) (a2_ : Int) (a3_ : Int) : Tr (Bool) :=
 .c ((Unit) ⊕ (Unit)) (wgj (a1_, (a2_, a3_)) (0 : Int)) fun r9_ =>
 .s (Unit) (Unit) r9_
 (fun _ => .l (((length a1_ : Nat) : Int) == a2_))
 (fun _ => .l false)
noncomputable def wgk (a1_ : Y1) (a2_ : Int) (a3_ : Int) : Option (Bool) := (wpk a1_ a2_ a3_).ev
noncomputable def wahj : RetK := yr [.tmp 6] Zl
noncomputable def wpm : FD := yd Zae [] [] Bool (fun x => wgk x.1.1 x.1.2.1 x.1.2.2.1) (fun r => ([.dat .bool r], []))
noncomputable def wpn : Env := envOf [(130, wcg)]
noncomputable def wpo : List (Nat × LD) := [(0, wdt)]
noncomputable def wpp : Code := (f200.body).getD .skip
noncomputable def waw (k : Int × Yv) (v : Int) : Tr ((Int) ⊕ ((Unit) ⊕ (Unit))) :=
 .t (decide (v < ((length k.2.2 : Nat) : Int)))
 (.g (inR v (length k.2.2)) <|
 .c (Bool) (wgk (getD k.2.2 (toNat v) ([] : Y1)) k.1 (99 : Int)) fun r5_ =>
 .t (!r5_)
 (.l (.inr (.inr ())))
 (.l (.inl (wrap .i64 (v + 1)))))
 (.l (.inr (.inl ())))
noncomputable def wgl (k : Int × Yv) (v : Int) : Option ((Unit) ⊕ (Unit)) := iter (fun v => (waw k v).ev) v
noncomputable def wdu : LD := ⟨{ acts := [], S := { slots := [1, 3, 4], sh := (yj [.box 1 0, .dat yi, .dat yi]), obs := [(1, .cells Ze)] } }, [(0, { acts := [], S := { slots := [1, 3], sh := (yj [.box 1 0, .dat yi]), obs := [(1, .cells Ze)] } })], (yh [2] Zl), Int × Yv, Int, (Unit) ⊕ (Unit), fun k v => (((), (k.1, (v, ()))), ((k.2.1, (k.2.2, ())), ())), fun t => (t.1.2.1, (t.2.1.1, t.2.1.2.1)), fun t => t.1.2.2.1, waw, fun k r => .s (Unit) (Unit) r (fun _ => .l (.exit 0 (mkSt ({ slots := [1, 3], sh := (yj [.box 1 0, .dat yi]), obs := [(1, .cells Ze)] }) (((), (k.1, ())), ((k.2.1, (k.2.2, ())), ()))))) (fun _ => .l (.ret (mkSt ((ys [2] Zl)) ((false, ()), ()))))⟩
noncomputable def wpq (a1_ : Y1) (a2_ : List Y1) : Tr (Bool) :=
 .c ((Unit) ⊕ (Unit)) (wgl (((length a1_ : Nat) : Int), (a1_, a2_)) (0 : Int)) fun r10_ =>
 .s (Unit) (Unit) r10_
 (fun _ => .c (Bool) (wac ((length a1_ : Nat) : Int) (1 : Int) (7 : Int)) fun r13_ =>
 .t r13_
 (.c (Bool) (wgk a1_ ((length a1_ : Nat) : Int) (99 : Int)) fun r14_ =>
 .t r14_
 (.l (decide (((length a2_ : Nat) : Int) ≤ (7 : Int))))
 (.l false))
 (.l false))
 (fun _ => .l false)
noncomputable def wgm (a1_ : Y1) (a2_ : List Y1) : Option (Bool) := (wpq a1_ a2_).ev
noncomputable def wahk : RetK := yr [.tmp 2] Zl
noncomputable def wkf : FD := yd (yj [.agg Ze]) [] [] Bool (fun x => wgm x.1.1.1 x.1.1.2.1) (fun r => ([.dat .bool r], []))
noncomputable def wpr : Env := envOf [(200, wpm), (130, wcg)]
noncomputable def wps : List (Nat × LD) := [(0, wdu)]
noncomputable def wpt : Code := (f166.body).getD .skip
noncomputable def wad (k : Y1 × Yq) (v : Int) : Tr ((Int) ⊕ ((Unit) ⊕ (Unit))) :=
 .t (decide (v < ((length k.1 : Nat) : Int)))
 (.g (inR v (length k.1)) <|
 .c (Bool) (wac (getD k.1 (toNat v) 0) k.2.1 k.2.2) fun r5_ =>
 .t (!r5_)
 (.l (.inr (.inr ())))
 (.t (decide (0 < v))
 (.g (inR (wrap .i64 (v - 1)) (length k.1)) <|
 .g (inR v (length k.1)) <|
 .t (decide ((getD k.1 (toNat v) 0) ≤ (getD k.1 (toNat (wrap .i64 (v - 1))) (0 : Int))))
 (.l (.inr (.inr ())))
 (.l (.inl (wrap .i64 (v + 1)))))
 (.l (.inl (wrap .i64 (v + 1))))))
 (.l (.inr (.inl ())))
noncomputable def wgn (k : Y1 × Yq) (v : Int) : Option ((Unit) ⊕ (Unit)) := iter (fun v => (wad k v).ev) v
noncomputable def wdv : LD := ⟨(yh [0, 1, 2, 7] (yj [.dat y1, .dat yi, .dat yi, .dat yi])), [(0, (yh [] .nil))], (yh [6] Zl), Y1 × Yq, Int, (Unit) ⊕ (Unit), fun k v => ((k.1, (k.2.1, (k.2.2, (v, ())))), ()), fun t => (t.1.1, (t.1.2.1, t.1.2.2.1)), fun t => t.1.2.2.2.1, wad, fun _ r => .s (Unit) (Unit) r (fun _ => .l (.exit 0 (mkSt ((ys [] .nil)) ((), ())))) (fun _ => .l (.ret (mkSt ((ys [6] Zl)) ((false, ()), ()))))⟩
noncomputable def wpu (a1_ : Y1) (a2_ : Int) (a3_ : Int) : Tr (Bool) :=
 .c ((Unit) ⊕ (Unit)) (wgn (a1_, (a2_, a3_)) (0 : Int)) fun r7_ =>
 .s (Unit) (Unit) r7_
 (fun _ => .l true)
 (fun _ => .l false)
noncomputable def wkg (a1_ : Y1) (a2_ : Int) (a3_ : Int) : Option (Bool) := (wpu a1_ a2_ a3_).ev
noncomputable def wahl : RetK := yr [.tmp 6] Zl
noncomputable def wpv : FD := yd Zae [] [] Bool (fun x => wkg x.1.1 x.1.2.1 x.1.2.2.1) (fun r => ([.dat .bool r], []))
noncomputable def wpw : Env := envOf [(130, wcg)]
noncomputable def wpx : List (Nat × LD) := [(0, wdv)]
noncomputable def wpy : Code := (f122.body).getD .skip
noncomputable def wpz (a1_ : Y1) (_a2_ : List Y1) (a3_ : Y1) : Tr (Bool) :=
 .c (Bool) (wkg a3_ (0 : Int) (wrap .i64 (((length a1_ : Nat) : Int) - 1))) fun r1_ =>
 .l r1_
noncomputable def wgo (a1_ : Y1) (a2_ : List Y1) (a3_ : Y1) : Option (Bool) := (wpz a1_ a2_ a3_).ev
noncomputable def wahm : RetK := yr [.tmp 4] Zl
noncomputable def wkh : FD := yd (yj [.agg Ze, .dat y1]) [] [] Bool (fun x => wgo x.1.1.1 x.1.1.2.1 x.1.2.1) (fun r => ([.dat .bool r], []))
noncomputable def wqa (a1_ : Y1) (a2_ : List Y1) (a3_ : Y1) (a4_ : Int) : Tr (Bool) :=
 .c (Bool) (wgm a1_ a2_) fun r1_ =>
 .t r1_
 (.c (Bool) (wgo a1_ a2_ a3_) fun r2_ =>
 .t r2_
 (.c (Bool) (wac a4_ (0 : Int) (1000 : Int)) fun r3_ =>
 .l r3_)
 (.l false))
 (.l false)
noncomputable def wgp (a1_ : Y1) (a2_ : List Y1) (a3_ : Y1) (a4_ : Int) : Option (Bool) := (wqa a1_ a2_ a3_ a4_).ev
noncomputable def wahn : RetK := yr [.tmp 2] Zl
noncomputable def wki : FD := yd (yj [.agg Zj]) [] [] Bool (fun x => wgp x.1.1.1 x.1.1.2.1 x.1.1.2.2.1 x.1.1.2.2.2.1) (fun r => ([.dat .bool r], []))
noncomputable def wqb (a1_ : Y1) : Tr Y1 :=
 .g (decide ((length ([] : Y1) + length a1_) * 8 ≤ 140737488355328)) <|
 .l (([] : Y1) ++ a1_)
noncomputable def wbx (a1_ : Y1) : Option Y1 := (wqb a1_).ev
noncomputable def waho : RetK := { acts := [.ren 3 0], res := [.tmp 2], sh := Zan, obs := [Zal], pins := [] }
noncomputable def wfy : FD := yd (yj [.dat y1]) [] [] Y1 (fun x => wbx x.1.1) (fun r => ([.arr 0], [(0, .arr 3 yi r)]))
noncomputable def wax (k : Y1 × (Y2 × (Y1 × (Int × (Int × (Y2 × Y1)))))) (v : Int × Y2) : Tr (Yam ⊕ Y2) :=
 .t (decide (v.1 < ((length k.2.1 : Nat) : Int)))
 (.g (inR v.1 (length k.2.1)) <|
 .c Y1 (wbx (getD k.2.1 (toNat v.1) ([] : Y1))) fun r11_ =>
 .g (decide ((length v.2 + 1) * 24 ≤ 140737488355328)) <|
 .l (.inl ((wrap .i64 (v.1 + 1)), (set (v.2 ++ [[]]) (length v.2) r11_))))
 (.l (.inr v.2))
noncomputable def wgq (k : Y1 × (Y2 × (Y1 × (Int × (Int × (Y2 × Y1)))))) (v : Int × Y2) : Option Y2 := iter (fun v => (wax k v).ev) v
noncomputable def wdw : LD := ⟨{ acts := [.ownRB 2 1 900321 24 3 yi], S := { slots := [1, 2, 3, 4], sh := (yj [.box 1 0, .box 2 0, .box 3 0, .dat yi]), obs := [(1, .cells Zj), (2, .cells (yj [.nilsl, .arr 900321, .nilsl, .dat yi])), (3, .cells (yj [.arr 512, .arr 9])), (900321, .rows 24 3 yi), (512, .arr 3 yi), (9, .rows 24 3 yi)] } }, [(0, { acts := [], S := { slots := [1, 2, 3], sh := (yj [.box 1 0, .box 2 0, .box 3 0]), obs := [(1, .cells Zj), (2, .cells (yj [.nilsl, .arr 900321, .nilsl, .dat yi])), (3, .cells (yj [.arr 512, .arr 9])), (900321, .rows 24 3 yi), (512, .arr 3 yi), (9, .rows 24 3 yi)] } })], (yh [] .nil), Y1 × (Y2 × (Y1 × (Int × (Int × (Y2 × Y1))))), Int × Y2, List Y1, fun k v => (((), ((), ((), (v.1, ())))), ((k.1, (k.2.1, (k.2.2.1, (k.2.2.2.1, ())))), (((), ((), ((), (k.2.2.2.2.1, ())))), (((), ((), ())), (k.2.2.2.2.2.1, (k.2.2.2.2.2.2, (v.2, ()))))))), fun t => (t.2.1.1, (t.2.1.2.1, (t.2.1.2.2.1, (t.2.1.2.2.2.1, (t.2.2.1.2.2.2.1, (t.2.2.2.2.1, t.2.2.2.2.2.1)))))), fun t => (t.1.2.2.2.1, t.2.2.2.2.2.2.1), wax, fun k r => .l (.exit 0 (mkSt ({ slots := [1, 2, 3], sh := (yj [.box 1 0, .box 2 0, .box 3 0]), obs := [(1, .cells Zj), (2, .cells (yj [.nilsl, .arr 900321, .nilsl, .dat yi])), (3, .cells (yj [.arr 512, .arr 9])), (900321, .rows 24 3 yi), (512, .arr 3 yi), (9, .rows 24 3 yi)] }) (((), ((), ((), ()))), ((k.1, (k.2.1, (k.2.2.1, (k.2.2.2.1, ())))), (((), ((), ((), (k.2.2.2.2.1, ())))), (((), ((), ())), (k.2.2.2.2.2.1, (k.2.2.2.2.2.2, (r, ())))))))))⟩
noncomputable def wqc (a1_ : Y1) (a2_ : List Y1) (a3_ : Y1) (a4_ : Int) : Tr Yh :=
 .c Y1 (wbx a1_) fun r1_ =>
 .c Y2 (wgq (a1_, (a2_, (a3_, (a4_, ((0 : Int), (([] : List Y1), r1_)))))) ((0 : Int), ([] : List Y1))) fun r20_ =>
 .c Y1 (wbx a3_) fun r21_ =>
 .l (a4_, (r1_, (r20_, r21_)))
noncomputable def wfz (a1_ : Y1) (a2_ : List Y1) (a3_ : Y1) (a4_ : Int) : Option Yh := (wqc a1_ a2_ a3_ a4_).ev
noncomputable def wahp : RetK := { acts := [.ren 512 4, .ren 9 5, .ren 2176 6], res := [.cell 2 68], sh := (yj [.agg (yj [.arr 4, .arr 5, .arr 6, .dat yi])]), obs := [(4, .arr 3 yi), (5, .rows 24 3 yi), (6, .arr 3 yi)], pins := [] }
noncomputable def wgr : FD := yd (yj [.agg Zj]) [] [] Yh (fun x => wfz x.1.1.1 x.1.1.2.1 x.1.1.2.2.1 x.1.1.2.2.2.1) (fun r => ([.agg [.arr 4, .arr 5, .arr 6, .dat yi r.1]], [(4, .arr 3 yi r.2.1), (5, .rows 24 3 yi r.2.2.1 none), (6, .arr 3 yi r.2.2.2)]))
noncomputable def wqd : Nat → Nat → List Nat := fun r i => match look [(1, [(4, [1000000])])] r with
 | some l => (look l i).getD []
 | none => []
noncomputable def wqe : Env := envOf [(173, wfy)]
noncomputable def wqf : List (Nat × LD) := [(0, wdw)]
noncomputable def wqg : Code := (f156.body).getD .skip
noncomputable def wqh (a1_ : Int) (a2_ : Int) (a3_ : Int) (a4_ : Int) (a5_ : Y1) : Tr (Bool) :=
 .t (a1_ == 1)
 (.t (a1_ == 1)
 (.t (a3_ == 0)
 (.t (a4_ == 0)
 (.l (((length a5_ : Nat) : Int) == (0 : Int)))
 (.l false))
 (.l false))
 (.t (a1_ == 3)
 (.t (a1_ == 3)
 (.t (a4_ == 0)
 (.l (((length a5_ : Nat) : Int) == (0 : Int)))
 (.l false))
 (.t (a1_ == 5)
 (.l (((length a5_ : Nat) : Int) == (0 : Int)))
 (.t (a1_ == 6)
 (.t (a3_ == 0)
 (.l (a4_ == 0))
 (.l false))
 (.t (a1_ == 7)
 (.t (a2_ == 0)
 (.t (a3_ == 0)
 (.l (a4_ == 0))
 (.l false))
 (.l false))
 (.t (a1_ == 10)
 (.t (a2_ == 0)
 (.t (a3_ == 0)
 (.t (a4_ == 0)
 (.l (((length a5_ : Nat) : Int) == (0 : Int)))
 (.l false))
 (.l false))
 (.l false))
 (.t (a1_ == 11)
 (.t (a2_ == 0)
 (.t (a3_ == 0)
 (.t (a4_ == 0)
 (.l (((length a5_ : Nat) : Int) == (0 : Int)))
 (.l false))
 (.l false))
 (.l false))
 (.l false)))))))
 (.t (a1_ == 4)
 (.t (a4_ == 0)
 (.l (((length a5_ : Nat) : Int) == (0 : Int)))
 (.l false))
 (.t (a1_ == 5)
 (.l (((length a5_ : Nat) : Int) == (0 : Int)))
 (.t (a1_ == 6)
 (.t (a3_ == 0)
 (.l (a4_ == 0))
 (.l false))
 (.t (a1_ == 7)
 (.t (a2_ == 0)
 (.t (a3_ == 0)
 (.l (a4_ == 0))
 (.l false))
 (.l false))
 (.t (a1_ == 10)
 (.t (a2_ == 0)
 (.t (a3_ == 0)
 (.t (a4_ == 0)
 (.l (((length a5_ : Nat) : Int) == (0 : Int)))
 (.l false))
 (.l false))
 (.l false))
 (.t (a1_ == 11)
 (.t (a2_ == 0)
 (.t (a3_ == 0)
 (.t (a4_ == 0)
 (.l (((length a5_ : Nat) : Int) == (0 : Int)))
 (.l false))
 (.l false))
 (.l false))
 (.l false)))))))))
 (.t (a1_ == 2)
 (.t (a1_ == 2)
 (.t (a3_ == 0)
 (.t (a4_ == 0)
 (.l (((length a5_ : Nat) : Int) == (0 : Int)))
 (.l false))
 (.l false))
 (.t (a1_ == 3)
 (.t (a1_ == 3)
 (.t (a4_ == 0)
 (.l (((length a5_ : Nat) : Int) == (0 : Int)))
 (.l false))
 (.t (a1_ == 5)
 (.l (((length a5_ : Nat) : Int) == (0 : Int)))
 (.t (a1_ == 6)
 (.t (a3_ == 0)
 (.l (a4_ == 0))
 (.l false))
 (.t (a1_ == 7)
 (.t (a2_ == 0)
 (.t (a3_ == 0)
 (.l (a4_ == 0))
 (.l false))
 (.l false))
 (.t (a1_ == 10)
 (.t (a2_ == 0)
 (.t (a3_ == 0)
 (.t (a4_ == 0)
 (.l (((length a5_ : Nat) : Int) == (0 : Int)))
 (.l false))
 (.l false))
 (.l false))
 (.t (a1_ == 11)
 (.t (a2_ == 0)
 (.t (a3_ == 0)
 (.t (a4_ == 0)
 (.l (((length a5_ : Nat) : Int) == (0 : Int)))
 (.l false))
 (.l false))
 (.l false))
 (.l false)))))))
 (.t (a1_ == 4)
 (.t (a4_ == 0)
 (.l (((length a5_ : Nat) : Int) == (0 : Int)))
 (.l false))
 (.t (a1_ == 5)
 (.l (((length a5_ : Nat) : Int) == (0 : Int)))
 (.t (a1_ == 6)
 (.t (a3_ == 0)
 (.l (a4_ == 0))
 (.l false))
 (.t (a1_ == 7)
 (.t (a2_ == 0)
 (.t (a3_ == 0)
 (.l (a4_ == 0))
 (.l false))
 (.l false))
 (.t (a1_ == 10)
 (.t (a2_ == 0)
 (.t (a3_ == 0)
 (.t (a4_ == 0)
 (.l (((length a5_ : Nat) : Int) == (0 : Int)))
 (.l false))
 (.l false))
 (.l false))
 (.t (a1_ == 11)
 (.t (a2_ == 0)
 (.t (a3_ == 0)
 (.t (a4_ == 0)
 (.l (((length a5_ : Nat) : Int) == (0 : Int)))
 (.l false))
 (.l false))
 (.l false))
 (.l false)))))))))
 (.t (a1_ == 8)
 (.t (a1_ == 8)
 (.t (a3_ == 0)
 (.t (a4_ == 0)
 (.l (((length a5_ : Nat) : Int) == (0 : Int)))
 (.l false))
 (.l false))
 (.t (a1_ == 3)
 (.t (a1_ == 3)
 (.t (a4_ == 0)
 (.l (((length a5_ : Nat) : Int) == (0 : Int)))
 (.l false))
 (.t (a1_ == 5)
 (.l (((length a5_ : Nat) : Int) == (0 : Int)))
 (.t (a1_ == 6)
 (.t (a3_ == 0)
 (.l (a4_ == 0))
 (.l false))
 (.t (a1_ == 7)
 (.t (a2_ == 0)
 (.t (a3_ == 0)
 (.l (a4_ == 0))
 (.l false))
 (.l false))
 (.t (a1_ == 10)
 (.t (a2_ == 0)
 (.t (a3_ == 0)
 (.t (a4_ == 0)
 (.l (((length a5_ : Nat) : Int) == (0 : Int)))
 (.l false))
 (.l false))
 (.l false))
 (.t (a1_ == 11)
 (.t (a2_ == 0)
 (.t (a3_ == 0)
 (.t (a4_ == 0)
 (.l (((length a5_ : Nat) : Int) == (0 : Int)))
 (.l false))
 (.l false))
 (.l false))
 (.l false)))))))
 (.t (a1_ == 4)
 (.t (a4_ == 0)
 (.l (((length a5_ : Nat) : Int) == (0 : Int)))
 (.l false))
 (.t (a1_ == 5)
 (.l (((length a5_ : Nat) : Int) == (0 : Int)))
 (.t (a1_ == 6)
 (.t (a3_ == 0)
 (.l (a4_ == 0))
 (.l false))
 (.t (a1_ == 7)
 (.t (a2_ == 0)
 (.t (a3_ == 0)
 (.l (a4_ == 0))
 (.l false))
 (.l false))
 (.t (a1_ == 10)
 (.t (a2_ == 0)
 (.t (a3_ == 0)
 (.t (a4_ == 0)
 (.l (((length a5_ : Nat) : Int) == (0 : Int)))
 (.l false))
 (.l false))
 (.l false))
 (.t (a1_ == 11)
 (.t (a2_ == 0)
 (.t (a3_ == 0)
 (.t (a4_ == 0)
 (.l (((length a5_ : Nat) : Int) == (0 : Int)))
 (.l false))
 (.l false))
 (.l false))
 (.l false)))))))))
 (.t (a1_ == 9)
 (.t (a3_ == 0)
 (.t (a4_ == 0)
 (.l (((length a5_ : Nat) : Int) == (0 : Int)))
 (.l false))
 (.l false))
 (.t (a1_ == 3)
 (.t (a1_ == 3)
 (.t (a4_ == 0)
 (.l (((length a5_ : Nat) : Int) == (0 : Int)))
 (.l false))
 (.t (a1_ == 5)
 (.l (((length a5_ : Nat) : Int) == (0 : Int)))
 (.t (a1_ == 6)
 (.t (a3_ == 0)
 (.l (a4_ == 0))
 (.l false))
 (.t (a1_ == 7)
 (.t (a2_ == 0)
 (.t (a3_ == 0)
 (.l (a4_ == 0))
 (.l false))
 (.l false))
 (.t (a1_ == 10)
 (.t (a2_ == 0)
 (.t (a3_ == 0)
 (.t (a4_ == 0)
 (.l (((length a5_ : Nat) : Int) == (0 : Int)))
 (.l false))
 (.l false))
 (.l false))
 (.t (a1_ == 11)
 (.t (a2_ == 0)
 (.t (a3_ == 0)
 (.t (a4_ == 0)
 (.l (((length a5_ : Nat) : Int) == (0 : Int)))
 (.l false))
 (.l false))
 (.l false))
 (.l false)))))))
 (.t (a1_ == 4)
 (.t (a4_ == 0)
 (.l (((length a5_ : Nat) : Int) == (0 : Int)))
 (.l false))
 (.t (a1_ == 5)
 (.l (((length a5_ : Nat) : Int) == (0 : Int)))
 (.t (a1_ == 6)
 (.t (a3_ == 0)
 (.l (a4_ == 0))
 (.l false))
 (.t (a1_ == 7)
 (.t (a2_ == 0)
 (.t (a3_ == 0)
 (.l (a4_ == 0))
 (.l false))
 (.l false))
 (.t (a1_ == 10)
 (.t (a2_ == 0)
 (.t (a3_ == 0)
 (.t (a4_ == 0)
 (.l (((length a5_ : Nat) : Int) == (0 : Int)))
 (.l false))
 (.l false))
 (.l false))
 (.t (a1_ == 11)
 (.t (a2_ == 0)
 (.t (a3_ == 0)
 (.t (a4_ == 0)
 (.l (((length a5_ : Nat) : Int) == (0 : Int)))
 (.l false))
 (.l false))
 (.l false))
 (.l false)))))))))))
noncomputable def wkj (a1_ : Int) (a2_ : Int) (a3_ : Int) (a4_ : Int) (a5_ : Y1) : Option (Bool) := (wqh a1_ a2_ a3_ a4_ a5_).ev
noncomputable def wahq : RetK := yr [.tmp 2] Zl
noncomputable def wqi : FD := yd (yj [.agg Zr]) [] [] Bool (fun x => wkj x.1.1.1 x.1.1.2.1 x.1.1.2.2.1 x.1.1.2.2.2.1 x.1.1.2.2.2.2.1) (fun r => ([.dat .bool r], []))
noncomputable def wqj (a1_ : Y1) (_a2_ : List Y1) (a3_ : Int) : Tr (Bool) :=
 .c (Bool) (wac a3_ (0 : Int) (wrap .i64 (((length a1_ : Nat) : Int) - 1))) fun r1_ =>
 .l r1_
noncomputable def wch (a1_ : Y1) (a2_ : List Y1) (a3_ : Int) : Option (Bool) := (wqj a1_ a2_ a3_).ev
noncomputable def wahr : RetK := yr [.tmp 4] Zl
noncomputable def wkk : FD := yd (yj [.agg Ze, .dat yi]) [] [] Bool (fun x => wch x.1.1.1 x.1.1.2.1 x.1.2.1) (fun r => ([.dat .bool r], []))
noncomputable def waz (k : Y1 × Int) (v : Int) : Tr ((Int) ⊕ ((Unit) ⊕ (Unit))) :=
 .t (decide (v < ((length k.1 : Nat) : Int)))
 (.g (inR v (length k.1)) <|
 .t ((getD k.1 (toNat v) 0) == k.2)
 (.l (.inr (.inr ())))
 (.l (.inl (wrap .i64 (v + 1)))))
 (.l (.inr (.inl ())))
noncomputable def wgs (k : Y1 × Int) (v : Int) : Option ((Unit) ⊕ (Unit)) := iter (fun v => (waz k v).ev) v
noncomputable def wdx : LD := ⟨(yh [0, 1, 5] Zae), [(0, (yh [] .nil))], (yh [4] Zl), Y1 × (Int), Int, (Unit) ⊕ (Unit), fun k v => ((k.1, (k.2, (v, ()))), ()), fun t => (t.1.1, t.1.2.1), fun t => t.1.2.2.1, waz, fun _ r => .s (Unit) (Unit) r (fun _ => .l (.exit 0 (mkSt ((ys [] .nil)) ((), ())))) (fun _ => .l (.ret (mkSt ((ys [4] Zl)) ((true, ()), ()))))⟩
noncomputable def wqk (a1_ : Y1) (a2_ : Int) : Tr (Bool) :=
 .c ((Unit) ⊕ (Unit)) (wgs (a1_, a2_) (0 : Int)) fun r5_ =>
 .s (Unit) (Unit) r5_
 (fun _ => .l false)
 (fun _ => .l true)
noncomputable def wba (a1_ : Y1) (a2_ : Int) : Option (Bool) := (wqk a1_ a2_).ev
noncomputable def wahs : RetK := yr [.tmp 4] Zl
noncomputable def wgt : FD := yd (yj [.dat y1, .dat yi]) [] [] Bool (fun x => wba x.1.1 x.1.2.1) (fun r => ([.dat .bool r], []))
noncomputable def wql : Env := envOf []
noncomputable def wqm : List (Nat × LD) := [(0, wdx)]
noncomputable def wqn : Code := (f112.body).getD .skip
noncomputable def wqo (a1_ : Y1) (a2_ : List Y1) (a3_ : Y1) (_a4_ : Int) (a5_ : Int) : Tr (Bool) :=
 .c (Bool) (wch a1_ a2_ a5_) fun r1_ =>
 .t r1_
 (.c (Bool) (wba a3_ a5_) fun r2_ =>
 .l (!r2_))
 (.l false)
noncomputable def wdc (a1_ : Y1) (a2_ : List Y1) (a3_ : Y1) (a4_ : Int) (a5_ : Int) : Option (Bool) := (wqo a1_ a2_ a3_ a4_ a5_).ev
noncomputable def waht : RetK := yr [.tmp 4] Zl
noncomputable def wqp : FD := yd (yj [.agg Zj, .dat yi]) [] [] Bool (fun x => wdc x.1.1.1 x.1.1.2.1 x.1.1.2.2.1 x.1.1.2.2.2.1 x.1.2.1) (fun r => ([.dat .bool r], []))
noncomputable def wqq (a1_ : Y1) (a2_ : List Y1) (a3_ : Y1) (a4_ : Int) (a5_ : Int) (a6_ : Int) (a7_ : Int) (_a8_ : Int) (a9_ : Y1) : Tr (Bool) :=
 .t (a5_ == 1)
 (.t (a5_ == 1)
 (.c (Bool) (wdc a1_ a2_ a3_ a4_ a6_) fun r1_ =>
 .l r1_)
 (.t (a5_ == 2)
 (.c (Bool) (wba a3_ a6_) fun r2_ =>
 .l r2_)
 (.t (a5_ == 3)
 (.c (Bool) (wba a3_ a6_) fun r3_ =>
 .t r3_
 (.c (Bool) (wdc a1_ a2_ a3_ a4_ a7_) fun r4_ =>
 .l r4_)
 (.l false))
 (.t (a5_ == 4)
 (.c (Bool) (wch a1_ a2_ a6_) fun r5_ =>
 .l r5_)
 (.t (a5_ == 5)
 (.c (Bool) (wac a6_ (0 : Int) (wrap .i64 (((length a2_ : Nat) : Int) - 1))) fun r6_ =>
 .t r6_
 (.c (Bool) (wch a1_ a2_ a7_) fun r7_ =>
 .l r7_)
 (.l false))
 (.t (a5_ == 6)
 (.l (((length a9_ : Nat) : Int) == ((length a2_ : Nat) : Int)))
 (.t (a5_ == 9)
 (.c (Bool) (wac a6_ (0 : Int) (wrap .i64 (((length a2_ : Nat) : Int) - 1))) fun r8_ =>
 .l r8_)
 (.t (a5_ == 10)
 (.l (decide ((0 : Int) < ((length a3_ : Nat) : Int))))
 (.l true)))))))))
 (.t (a5_ == 8)
 (.c (Bool) (wdc a1_ a2_ a3_ a4_ a6_) fun r9_ =>
 .l r9_)
 (.t (a5_ == 2)
 (.c (Bool) (wba a3_ a6_) fun r10_ =>
 .l r10_)
 (.t (a5_ == 3)
 (.c (Bool) (wba a3_ a6_) fun r11_ =>
 .t r11_
 (.c (Bool) (wdc a1_ a2_ a3_ a4_ a7_) fun r12_ =>
 .l r12_)
 (.l false))
 (.t (a5_ == 4)
 (.c (Bool) (wch a1_ a2_ a6_) fun r13_ =>
 .l r13_)
 (.t (a5_ == 5)
 (.c (Bool) (wac a6_ (0 : Int) (wrap .i64 (((length a2_ : Nat) : Int) - 1))) fun r14_ =>
 .t r14_
 (.c (Bool) (wch a1_ a2_ a7_) fun r15_ =>
 .l r15_)
 (.l false))
 (.t (a5_ == 6)
 (.l (((length a9_ : Nat) : Int) == ((length a2_ : Nat) : Int)))
 (.t (a5_ == 9)
 (.c (Bool) (wac a6_ (0 : Int) (wrap .i64 (((length a2_ : Nat) : Int) - 1))) fun r16_ =>
 .l r16_)
 (.t (a5_ == 10)
 (.l (decide ((0 : Int) < ((length a3_ : Nat) : Int))))
 (.l true)))))))))
noncomputable def wkl (a1_ : Y1) (a2_ : List Y1) (a3_ : Y1) (a4_ : Int) (a5_ : Int) (a6_ : Int) (a7_ : Int) (a8_ : Int) (a9_ : Y1) : Option (Bool) := (wqq a1_ a2_ a3_ a4_ a5_ a6_ a7_ a8_ a9_).ev
noncomputable def wahu : RetK := yr [.tmp 4] Zl
noncomputable def wqr : FD := yd (yj [.agg Zj, .agg Zr]) [] [] Bool (fun x => wkl x.1.1.1 x.1.1.2.1 x.1.1.2.2.1 x.1.1.2.2.2.1 x.1.2.1.1 x.1.2.1.2.1 x.1.2.1.2.2.1 x.1.2.1.2.2.2.1 x.1.2.1.2.2.2.2.1) (fun r => ([.dat .bool r], []))
noncomputable def wae (k : Y1 × Int) (v : Int) : Tr ((Int) ⊕ (Int)) :=
 .t (decide (v < ((length k.1 : Nat) : Int)))
 (.g (inR v (length k.1)) <|
 .t (decide ((getD k.1 (toNat v) 0) < k.2))
 (.l (.inl (wrap .i64 (v + 1))))
 (.l (.inr v)))
 (.l (.inr v))
noncomputable def wdd (k : Y1 × Int) (v : Int) : Option (Int) := iter (fun v => (wae k v).ev) v
noncomputable def wdy : LD := ⟨(yh [0, 1, 5] Zae), [(0, (yh [0, 1, 5] Zae))], (yh [] .nil), Y1 × (Int), Int, Int, fun k v => ((k.1, (k.2, (v, ()))), ()), fun t => (t.1.1, t.1.2.1), fun t => t.1.2.2.1, wae, fun k r => .l (.exit 0 (mkSt ((ys [0, 1, 5] Zae)) ((k.1, (k.2, (r, ()))), ())))⟩
noncomputable def wqs (a1_ : Y1) (a2_ : Int) : Tr Y1 :=
 .c (Int) (wdd (a1_, a2_) (0 : Int)) fun r7_ =>
 .t (decide (r7_ < ((length a1_ : Nat) : Int)))
 (.g (inR r7_ (length a1_)) <|
 .t ((getD a1_ (toNat r7_) 0) == a2_)
 (.f)
 (.g (decide (0 ≤ r7_) && decide (r7_ ≤ ((length a1_ : Nat) : Int))) <|
 .g (decide ((length ([] : Y1) + length (List.drop 0 (List.take (toNat r7_) a1_))) * 8 ≤ 140737488355328)) <|
 .g (decide ((length (([] : Y1) ++ (List.drop 0 (List.take (toNat r7_) a1_))) + length ([a2_] : Y1)) * 8 ≤ 140737488355328)) <|
 .g (decide (0 ≤ r7_) && decide (r7_ ≤ ((length a1_ : Nat) : Int))) <|
 .g (decide ((length ((([] : Y1) ++ (List.drop 0 (List.take (toNat r7_) a1_))) ++ ([a2_] : Y1)) + length (List.drop (toNat r7_) (List.take (length a1_) a1_))) * 8 ≤ 140737488355328)) <|
 .l (((([] : Y1) ++ (List.drop 0 (List.take (toNat r7_) a1_))) ++ ([a2_] : Y1)) ++ (List.drop (toNat r7_) (List.take (length a1_) a1_)))))
 (.g (decide (0 ≤ r7_) && decide (r7_ ≤ ((length a1_ : Nat) : Int))) <|
 .g (decide ((length ([] : Y1) + length (List.drop 0 (List.take (toNat r7_) a1_))) * 8 ≤ 140737488355328)) <|
 .g (decide ((length (([] : Y1) ++ (List.drop 0 (List.take (toNat r7_) a1_))) + length ([a2_] : Y1)) * 8 ≤ 140737488355328)) <|
 .g (decide (0 ≤ r7_) && decide (r7_ ≤ ((length a1_ : Nat) : Int))) <|
 .g (decide ((length ((([] : Y1) ++ (List.drop 0 (List.take (toNat r7_) a1_))) ++ ([a2_] : Y1)) + length (List.drop (toNat r7_) (List.take (length a1_) a1_))) * 8 ≤ 140737488355328)) <|
 .l (((([] : Y1) ++ (List.drop 0 (List.take (toNat r7_) a1_))) ++ ([a2_] : Y1)) ++ (List.drop (toNat r7_) (List.take (length a1_) a1_))))
noncomputable def wci (a1_ : Y1) (a2_ : Int) : Option Y1 := (wqs a1_ a2_).ev
noncomputable def wahv : RetK := { acts := [.ren 33 0], res := [.tmp 4], sh := Zan, obs := [Zal], pins := [] }
noncomputable def wkm : FD := yd (yj [.dat y1, .dat yi]) [] [] Y1 (fun x => wci x.1.1 x.1.2.1) (fun r => ([.arr 0], [(0, .arr 3 yi r)]))
noncomputable def wqt : Nat → Nat → List Nat := fun r i => match look [(5, [(1, [140000000])])] r with
 | some l => (look l i).getD []
 | none => []
noncomputable def wqu : Env := envOf []
noncomputable def wqv : List (Nat × LD) := [(0, wdy)]
noncomputable def wqw : Code := (f169.body).getD .skip
noncomputable def waf (k : Y1 × Int) (v : Int × Y1) : Tr (Yab ⊕ Y1) :=
 .t (decide (v.1 < ((length k.1 : Nat) : Int)))
 (.g (inR v.1 (length k.1)) <|
 .t ((getD k.1 (toNat v.1) 0) != k.2)
 (.g (inR v.1 (length k.1)) <|
 .g (decide ((length v.2 + length ([(getD k.1 (toNat v.1) 0)] : Y1)) * 8 ≤ 140737488355328)) <|
 .l (.inl ((wrap .i64 (v.1 + 1)), (v.2 ++ ([(getD k.1 (toNat v.1) 0)] : Y1)))))
 (.l (.inl ((wrap .i64 (v.1 + 1)), v.2))))
 (.l (.inr v.2))
noncomputable def wde (k : Y1 × Int) (v : Int × Y1) : Option Y1 := iter (fun v => (waf k v).ev) v
noncomputable def wdz : LD := ⟨{ acts := [], S := { slots := [0, 1, 5, 6], sh := (yj [.dat y1, .dat yi, .arr 7, .dat yi]), obs := [(7, .arr 3 yi)] } }, [(0, { acts := [], S := { slots := [5], sh := (yj [.arr 7]), obs := [(7, .arr 3 yi)] } })], (yh [] .nil), Y1 × (Int), Int × Y1, Y1, fun k v => ((k.1, (k.2, ((), (v.1, ())))), (v.2, ())), fun t => (t.1.1, t.1.2.1), fun t => (t.1.2.2.2.1, t.2.1), waf, fun _ r => .l (.exit 0 (mkSt ({ slots := [5], sh := (yj [.arr 7]), obs := [(7, .arr 3 yi)] }) (((), ()), (r, ()))))⟩
noncomputable def wqx (a1_ : Y1) (a2_ : Int) : Tr Y1 :=
 .c Y1 (wde (a1_, a2_) ((0 : Int), ([] : Y1))) fun r6_ =>
 .l r6_
noncomputable def wga (a1_ : Y1) (a2_ : Int) : Option Y1 := (wqx a1_ a2_).ev
noncomputable def wahw : RetK := { acts := [.ren 7 0], res := [.tmp 4], sh := Zan, obs := [Zal], pins := [] }
noncomputable def wkn : FD := yd (yj [.dat y1, .dat yi]) [] [] Y1 (fun x => wga x.1.1 x.1.2.1) (fun r => ([.arr 0], [(0, .arr 3 yi r)]))
noncomputable def wqy : Env := envOf []
noncomputable def wqz : List (Nat × LD) := [(0, wdz)]
noncomputable def wra : Code := (f245.body).getD .skip
noncomputable def wrb (a1_ : Y1) (a2_ : Int) : Tr Y1 :=
 .g (decide (0 ≤ a2_) && decide (a2_ ≤ ((length a1_ : Nat) : Int))) <|
 .c Y1 (wbx (List.drop 0 (List.take (toNat a2_) a1_))) fun r1_ =>
 .g (decide ((0 : Int) ≤ (wrap .i64 (a2_ + 1))) && decide ((wrap .i64 (a2_ + 1)) ≤ ((length a1_ : Nat) : Int))) <|
 .g (decide ((length r1_ + length (List.drop (toNat (wrap .i64 (a2_ + 1))) (List.take (length a1_) a1_))) * 8 ≤ 140737488355328)) <|
 .l (r1_ ++ (List.drop (toNat (wrap .i64 (a2_ + 1))) (List.take (length a1_) a1_)))
noncomputable def wgu (a1_ : Y1) (a2_ : Int) : Option Y1 := (wrb a1_ a2_).ev
noncomputable def wahx : RetK := { acts := [.ren 512 0], res := [.tmp 4], sh := Zan, obs := [Zal], pins := [] }
noncomputable def wrc : FD := yd (yj [.dat y1, .dat yi]) [] [] Y1 (fun x => wgu x.1.1 x.1.2.1) (fun r => ([.arr 0], [(0, .arr 3 yi r)]))
noncomputable def wbb (k : Int × (Y1 × (Y2 × (Y1 × Yao)))) (v : Int × Y2) : Tr (Yam ⊕ Y2) :=
 .t (decide (v.1 < ((length k.2.2.1 : Nat) : Int)))
 (.g (inR v.1 (length k.2.2.1)) <|
 .c Y1 (wgu (getD k.2.2.1 (toNat v.1) ([] : Y1)) k.1) fun r14_ =>
 .g (inR v.1 (length v.2)) <|
 .g (decide ((toNat v.1) < length v.2)) <|
 .l (.inl ((wrap .i64 (v.1 + 1)), (set v.2 (toNat v.1) r14_))))
 (.l (.inr v.2))
noncomputable def wgv (k : Int × (Y1 × (Y2 × (Y1 × Yao)))) (v : Int × Y2) : Option Y2 := iter (fun v => (wbb k v).ev) v
noncomputable def wea : LD := ⟨{ acts := [], S := { slots := [1, 2, 4, 5, 6], sh := (yj [.dat yi, .box 2 0, .box 4 0, .box 5 0, .dat yi]), obs := [(2, .cells Zj), Zk, Zac, (896, .arr 3 yi), (581, .rows 24 3 yi), (582, .arr 3 yi)] } }, [(0, { acts := [], S := { slots := [1, 4, 5], sh := (yj [.dat yi, .box 4 0, .box 5 0]), obs := [Zk, Zac, (896, .arr 3 yi), (581, .rows 24 3 yi), (582, .arr 3 yi)] } })], (yh [] .nil), Int × (Y1 × (Y2 × (Y1 × Yao))), Int × Y2, List Y1, fun k v => ((k.1, ((), ((), ((), (v.1, ()))))), ((k.2.1, (k.2.2.1, (k.2.2.2.1, (k.2.2.2.2.1, ())))), (((), ((), ((), (k.2.2.2.2.2.1, ())))), (((), ((), ((), (k.2.2.2.2.2.2.1, ())))), (k.2.2.2.2.2.2.2.1, (v.2, (k.2.2.2.2.2.2.2.2, ()))))))), fun t => (t.1.1, (t.2.1.1, (t.2.1.2.1, (t.2.1.2.2.1, (t.2.1.2.2.2.1, (t.2.2.1.2.2.2.1, (t.2.2.2.1.2.2.2.1, (t.2.2.2.2.1, t.2.2.2.2.2.2.1)))))))), fun t => (t.1.2.2.2.2.1, t.2.2.2.2.2.1), wbb, fun k r => .l (.exit 0 (mkSt ({ slots := [1, 4, 5], sh := (yj [.dat yi, .box 4 0, .box 5 0]), obs := [Zk, Zac, (896, .arr 3 yi), (581, .rows 24 3 yi), (582, .arr 3 yi)] }) ((k.1, ((), ((), ()))), (((), ((), ((), (k.2.2.2.2.2.1, ())))), (((), ((), ((), (k.2.2.2.2.2.2.1, ())))), (k.2.2.2.2.2.2.2.1, (r, (k.2.2.2.2.2.2.2.2, ()))))))))⟩
noncomputable def wag (k : Int × (Int × (Int × Yv))) (v : Int × Y1) : Tr (Yab ⊕ Y1) :=
 .t (decide (v.1 < ((length v.2 : Nat) : Int)))
 (.g (inR v.1 (length v.2)) <|
 .g (decide ((toNat v.1) < length v.2)) <|
 .t (decide (k.1 < (getD v.2 (toNat v.1) 0)))
 (.g (inR v.1 (length v.2)) <|
 .g (decide ((toNat v.1) < length v.2)) <|
 .g (inR v.1 (length v.2)) <|
 .g (decide ((toNat v.1) < length v.2)) <|
 .l (.inl ((wrap .i64 (v.1 + 1)), (set v.2 (toNat v.1) (wrap .i64 ((getD v.2 (toNat v.1) 0) - 1))))))
 (.l (.inl ((wrap .i64 (v.1 + 1)), v.2))))
 (.l (.inr v.2))
noncomputable def wgw (k : Int × (Int × (Int × Yv))) (v : Int × Y1) : Option Y1 := iter (fun v => (wag k v).ev) v
noncomputable def web : LD := ⟨{ acts := [], S := { slots := [1, 4, 5, 7], sh := (yj [.dat yi, .box 4 0, .box 5 0, .dat yi]), obs := [Zk, Zac, (896, .arr 3 yi), (581, .rows 24 3 yi), (582, .arr 3 yi)] } }, [(2, { acts := [], S := { slots := [4, 5], sh := (yj [.box 4 0, .box 5 0]), obs := [Zk, Zac, (896, .arr 3 yi), (581, .rows 24 3 yi), (582, .arr 3 yi)] } })], (yh [] .nil), Int × (Int × (Int × Yv)), Int × Y1, Y1, fun k v => ((k.1, ((), ((), (v.1, ())))), (((), ((), ((), (k.2.1, ())))), (((), ((), ((), (k.2.2.1, ())))), (k.2.2.2.1, (k.2.2.2.2, (v.2, ())))))), fun t => (t.1.1, (t.2.1.2.2.2.1, (t.2.2.1.2.2.2.1, (t.2.2.2.1, t.2.2.2.2.1)))), fun t => (t.1.2.2.2.1, t.2.2.2.2.2.1), wag, fun k r => .l (.exit 2 (mkSt ({ slots := [4, 5], sh := (yj [.box 4 0, .box 5 0]), obs := [Zk, Zac, (896, .arr 3 yi), (581, .rows 24 3 yi), (582, .arr 3 yi)] }) (((), ((), ())), (((), ((), ((), (k.2.1, ())))), (((), ((), ((), (k.2.2.1, ())))), (k.2.2.2.1, (k.2.2.2.2, (r, ()))))))))⟩
noncomputable def wrd (a1_ : Y1) (a2_ : List Y1) (a3_ : Y1) (a4_ : Int) (a5_ : Int) : Tr Yh :=
 .c Yh (wfz a1_ a2_ a3_ a4_) fun r1_ =>
 .c Y1 (wgu a1_ a5_) fun r2_ =>
 .c Y2 (wgv (a5_, (a1_, (a2_, (a3_, (a4_, ((0 : Int), (r1_.1, (r2_, r1_.2.2.2)))))))) ((0 : Int), r1_.2.2.1)) fun r21_ =>
 .c Y1 (wgw (a5_, ((0 : Int), (r1_.1, (r2_, r21_)))) ((0 : Int), r1_.2.2.2)) fun r34_ =>
 .l (r1_.1, (r2_, (r21_, r34_)))
noncomputable def wko (a1_ : Y1) (a2_ : List Y1) (a3_ : Y1) (a4_ : Int) (a5_ : Int) : Option Yh := (wrd a1_ a2_ a3_ a4_ a5_).ev
noncomputable def wahy : RetK := { acts := [.ren 896 1, .ren 581 2, .ren 582 3], res := [.cell 4 68], sh := (yj [.agg (yj [.arr 1, .arr 2, .arr 3, .dat yi])]), obs := [(1, .arr 3 yi), (2, .rows 24 3 yi), (3, .arr 3 yi)], pins := [] }
noncomputable def wre : FD := yd (yj [.agg Zj, .dat yi]) [] [] Yh (fun x => wko x.1.1.1 x.1.1.2.1 x.1.1.2.2.1 x.1.1.2.2.2.1 x.1.2.1) (fun r => ([.agg [.arr 1, .arr 2, .arr 3, .dat yi r.1]], [(1, .arr 3 yi r.2.1), (2, .rows 24 3 yi r.2.2.1 none), (3, .arr 3 yi r.2.2.2)]))
noncomputable def wkp : Env := envOf [(156, wgr), (265, wrc)]
noncomputable def wkr : List (Nat × LD) := [(0, wea), (2, web)]
noncomputable def wks : Code := (f246.body).getD .skip
noncomputable def wrf (a1_ : Y1) (a2_ : List Y1) (a3_ : Y1) : Tr (Bool) :=
 .c (Bool) (wgm a1_ a2_) fun r1_ =>
 .t r1_
 (.c (Bool) (wgo a1_ a2_ a3_) fun r2_ =>
 .t r2_
 (.l (decide ((0 : Int) < ((length a3_ : Nat) : Int))))
 (.l false))
 (.l false)
noncomputable def wkt (a1_ : Y1) (a2_ : List Y1) (a3_ : Y1) : Option (Bool) := (wrf a1_ a2_ a3_).ev
noncomputable def wahz : RetK := yr [.tmp 4] Zl
noncomputable def wrg : FD := yd (yj [.agg Ze, .dat y1]) [] [] Bool (fun x => wkt x.1.1.1 x.1.1.2.1 x.1.2.1) (fun r => ([.dat .bool r], []))
noncomputable def wah (k : Y1 × (Int × ((Nat) × (Y1 × (Y2 × (Y2 × Y2)))))) (v : Int × Y2) : Tr (Yam ⊕ Y2) :=
 .t (decide (v.1 < ((length k.2.2.2.1 : Nat) : Int)))
 (.c (Bool) (wba k.1 v.1) fun r20_ =>
 .t (!r20_)
 (.c Y1 (wci (getD k.2.2.2.2.2.2 k.2.2.1 ([] : Y1)) v.1) fun r21_ =>
 .g (decide ((length v.2 + 1) * 24 ≤ 140737488355328)) <|
 .l (.inl ((wrap .i64 (v.1 + 1)), (set (v.2 ++ [[]]) (length v.2) r21_))))
 (.l (.inl ((wrap .i64 (v.1 + 1)), v.2))))
 (.l (.inr v.2))
noncomputable def wgx (k : Y1 × (Int × ((Nat) × (Y1 × (Y2 × (Y2 × Y2)))))) (v : Int × Y2) : Option Y2 := iter (fun v => (wah k v).ev) v
noncomputable def wec : LD := ⟨{ acts := [], S := { slots := [1, 2, 5, 6, 7, 8, 9, 10], sh := (yj [.dat y1, .box 2 0, .arr 11, .arr 12, .arr 13, .dat yi, .row 12, .dat yi]), obs := [(2, .cells Ze), (11, .rows 24 3 yi), (12, .rows 24 3 yi), (13, .rows 24 3 yi)] } }, [(2, { acts := [], S := { slots := [1, 2, 5, 6, 7, 8], sh := Zaf, obs := [(2, .cells Ze), (11, .rows 24 3 yi), (12, .rows 24 3 yi), (13, .rows 24 3 yi)] } })], (yh [] .nil), Y1 × (Int × ((Nat) × (Y1 × (Y2 × (Y2 × Y2))))), Int × Y2, List Y1, fun k v => ((k.1, ((), ((), ((), ((), (k.2.1, (k.2.2.1, (v.1, ())))))))), ((k.2.2.2.1, (k.2.2.2.2.1, ())), (k.2.2.2.2.2.1, (k.2.2.2.2.2.2, (v.2, ()))))), fun t => (t.1.1, (t.1.2.2.2.2.2.1, (t.1.2.2.2.2.2.2.1, (t.2.1.1, (t.2.1.2.1, (t.2.2.1, t.2.2.2.1)))))), fun t => (t.1.2.2.2.2.2.2.2.1, t.2.2.2.2.1), wah, fun k r => .l (.exit 2 (mkSt ({ slots := [1, 2, 5, 6, 7, 8], sh := Zaf, obs := [(2, .cells Ze), (11, .rows 24 3 yi), (12, .rows 24 3 yi), (13, .rows 24 3 yi)] }) ((k.1, ((), ((), ((), ((), (k.2.1, ())))))), ((k.2.2.2.1, (k.2.2.2.2.1, ())), (k.2.2.2.2.2.1, (k.2.2.2.2.2.2, (r, ())))))))⟩
noncomputable def wu (k : Y1 × (Int × (Y1 × (Y2 × (Y2 × (Y2 × Y1)))))) (v : Int × Y2) : Tr (Yam ⊕ Y2) :=
 .t (decide (v.1 < ((length k.2.2.1 : Nat) : Int)))
 (.c (Bool) (wba k.1 v.1) fun r39_ =>
 .t (!r39_)
 (.c Y1 (wci k.2.2.2.2.2.2 v.1) fun r40_ =>
 .g (decide ((length v.2 + 1) * 24 ≤ 140737488355328)) <|
 .l (.inl ((wrap .i64 (v.1 + 1)), (set (v.2 ++ [[]]) (length v.2) r40_))))
 (.l (.inl ((wrap .i64 (v.1 + 1)), v.2))))
 (.l (.inr v.2))
noncomputable def wbc (k : Y1 × (Int × (Y1 × (Y2 × (Y2 × (Y2 × Y1)))))) (v : Int × Y2) : Option Y2 := iter (fun v => (wu k v).ev) v
noncomputable def wan : LD := ⟨{ acts := [], S := { slots := [1, 2, 5, 6, 7, 8, 9, 10], sh := (yj [.dat y1, .box 2 0, .arr 11, .arr 12, .arr 13, .dat yi, .arr 2112, .dat yi]), obs := [(2, .cells Ze), (11, .rows 24 3 yi), (12, .rows 24 3 yi), (13, .rows 24 3 yi), (2112, .arr 3 yi)] } }, [(2, { acts := [], S := { slots := [1, 2, 5, 6, 7, 8], sh := Zaf, obs := [(2, .cells Ze), (11, .rows 24 3 yi), (12, .rows 24 3 yi), (13, .rows 24 3 yi)] } })], (yh [] .nil), Y1 × (Int × (Y1 × (Y2 × (Y2 × (Y2 × Y1))))), Int × Y2, List Y1, fun k v => ((k.1, ((), ((), ((), ((), (k.2.1, ((), (v.1, ())))))))), ((k.2.2.1, (k.2.2.2.1, ())), (k.2.2.2.2.1, (k.2.2.2.2.2.1, (v.2, (k.2.2.2.2.2.2, ())))))), fun t => (t.1.1, (t.1.2.2.2.2.2.1, (t.2.1.1, (t.2.1.2.1, (t.2.2.1, (t.2.2.2.1, t.2.2.2.2.2.1)))))), fun t => (t.1.2.2.2.2.2.2.2.1, t.2.2.2.2.1), wu, fun k r => .l (.exit 2 (mkSt ({ slots := [1, 2, 5, 6, 7, 8], sh := Zaf, obs := [(2, .cells Ze), (11, .rows 24 3 yi), (12, .rows 24 3 yi), (13, .rows 24 3 yi)] }) ((k.1, ((), ((), ((), ((), (k.2.1, ())))))), ((k.2.2.1, (k.2.2.2.1, ())), (k.2.2.2.2.1, (k.2.2.2.2.2.1, (r, ())))))))⟩
noncomputable def ww (k : Y1 × Yv) (v : Int × (Y2 × (Y2 × Y2))) : Tr ((Int × (Y2 × (Y2 × Y2))) ⊕ (Y2 × (Y2 × Y2))) :=
 .t (decide (v.1 < ((length k.2.1 : Nat) : Int)))
 (.c (Bool) (wba k.1 v.1) fun r8_ =>
 .t (!r8_)
 (.c Y1 (wci k.1 v.1) fun r9_ =>
 .g (decide ((length v.2.1 + 1) * 24 ≤ 140737488355328)) <|
 .l (.inl ((wrap .i64 (v.1 + 1)), ((set (v.2.1 ++ [[]]) (length v.2.1) r9_), (v.2.2.1, v.2.2.2)))))
 (.c Y1 (wga k.1 v.1) fun r10_ =>
 .t (decide ((0 : Int) < ((length r10_ : Nat) : Int)))
 (.g (decide ((length v.2.2.1 + 1) * 24 ≤ 140737488355328)) <|
 .c Y2 (wgx (k.1, (v.1, ((length v.2.2.1), (k.2.1, (k.2.2, (v.2.1, (set (v.2.2.1 ++ [[]]) (length v.2.2.1) r10_))))))) ((0 : Int), v.2.2.2)) fun r29_ =>
 .l (.inl ((wrap .i64 (v.1 + 1)), (v.2.1, ((set (v.2.2.1 ++ [[]]) (length v.2.2.1) r10_), r29_)))))
 (.c Y2 (wbc (k.1, (v.1, (k.2.1, (k.2.2, (v.2.1, (v.2.2.1, r10_)))))) ((0 : Int), v.2.2.2)) fun r48_ =>
 .l (.inl ((wrap .i64 (v.1 + 1)), (v.2.1, (v.2.2.1, r48_)))))))
 (.l (.inr (v.2.1, (v.2.2.1, v.2.2.2))))
noncomputable def wgy (k : Y1 × Yv) (v : Int × (Y2 × (Y2 × Y2))) : Option (Y2 × (Y2 × Y2)) := iter (fun v => (ww k v).ev) v
noncomputable def wed : LD := ⟨{ acts := [], S := { slots := [1, 2, 5, 6, 7, 8], sh := Zaf, obs := [(2, .cells Ze), (11, .rows 24 3 yi), (12, .rows 24 3 yi), (13, .rows 24 3 yi)] } }, [(0, { acts := [], S := { slots := [5, 6, 7], sh := (yj [.arr 11, .arr 12, .arr 13]), obs := [(11, .rows 24 3 yi), (12, .rows 24 3 yi), (13, .rows 24 3 yi)] } })], (yh [] .nil), Y1 × Yv, Int × (Y2 × (Y2 × Y2)), Y2 × (Y2 × Y2), fun k v => ((k.1, ((), ((), ((), ((), (v.1, ())))))), ((k.2.1, (k.2.2, ())), (v.2.1, (v.2.2.1, (v.2.2.2, ()))))), fun t => (t.1.1, (t.2.1.1, t.2.1.2.1)), fun t => (t.1.2.2.2.2.2.1, (t.2.2.1, (t.2.2.2.1, t.2.2.2.2.1))), ww, fun _ r => .l (.exit 0 (mkSt ({ slots := [5, 6, 7], sh := (yj [.arr 11, .arr 12, .arr 13]), obs := [(11, .rows 24 3 yi), (12, .rows 24 3 yi), (13, .rows 24 3 yi)] }) (((), ((), ((), ()))), (r.1, (r.2.1, (r.2.2, ()))))))⟩
noncomputable def wrh (a1_ : Y1) (a2_ : List Y1) (a3_ : Y1) : Tr Y2 :=
 .c (Y2 × (Y2 × Y2)) (wgy (a3_, (a1_, a2_)) ((0 : Int), (([] : List Y1), (([] : List Y1), ([] : List Y1))))) fun r52_ =>
 .g (decide ((length r52_.1 + length r52_.2.1) * 24 ≤ 140737488355328)) <|
 .g (decide ((length (r52_.1 ++ r52_.2.1) + length r52_.2.2) * 24 ≤ 140737488355328)) <|
 .l ((r52_.1 ++ r52_.2.1) ++ r52_.2.2)
noncomputable def wku (a1_ : Y1) (a2_ : List Y1) (a3_ : Y1) : Option Y2 := (wrh a1_ a2_ a3_).ev
noncomputable def waia : RetK := { acts := [.ren 13 0], res := [.tmp 4], sh := Zan, obs := [(0, .rows 24 3 yi)], pins := [] }
noncomputable def wri : FD := yd (yj [.agg Ze, .dat y1]) [] [] (List Y1) (fun x => wku x.1.1.1 x.1.1.2.1 x.1.2.1) (fun r => ([.arr 0], [(0, .rows 24 3 yi r none)]))
noncomputable def wgz : Nat → Nat → List Nat := fun r i => match look [(1, [(0, [1000000]), (1, [1000000]), (2, [1000000])])] r with
 | some l => (look l i).getD []
 | none => []
noncomputable def wha : Env := envOf [(112, wgt), (169, wkm), (245, wkn)]
noncomputable def whb : List (Nat × LD) := [(2, wec), (2, wan), (0, wed)]
noncomputable def whc : Code := (f227.body).getD .skip
noncomputable def wai (k : Int × (Y1 × Yv)) (v : Int × Int) : Tr (Yq ⊕ (Int)) :=
 .t (decide (v.2 < ((length k.2.1 : Nat) : Int)))
 (.g (inR k.1 (length k.2.2.2)) <|
 .g (inR v.2 (length k.2.1)) <|
 .g (inR (getD k.2.1 (toNat v.2) 0) (length (getD k.2.2.2 (toNat k.1) ([] : Y1)))) <|
 .g (inR k.1 (length k.2.2.2)) <|
 .g (inR v.1 (length (getD k.2.2.2 (toNat k.1) ([] : Y1)))) <|
 .t (decide ((getD (getD k.2.2.2 (toNat k.1) ([] : Y1)) (toNat (getD k.2.1 (toNat v.2) 0)) (0 : Int)) < (getD (getD k.2.2.2 (toNat k.1) ([] : Y1)) (toNat v.1) (0 : Int))))
 (.g (inR v.2 (length k.2.1)) <|
 .l (.inl ((getD k.2.1 (toNat v.2) 0), (wrap .i64 (v.2 + 1)))))
 (.l (.inl (v.1, (wrap .i64 (v.2 + 1))))))
 (.l (.inr v.1))
noncomputable def wcc (k : Int × (Y1 × Yv)) (v : Int × Int) : Option (Int) := iter (fun v => (wai k v).ev) v
noncomputable def wee : LD := ⟨{ acts := [], S := { slots := [1, 2, 3, 7, 8], sh := (yj [.dat yi, .dat y1, .box 3 0, .dat yi, .dat yi]), obs := [(3, .cells Ze)] } }, [(0, (yh [7] Zg))], (yh [] .nil), Int × (Y1 × Yv), Int × (Int), Int, fun k v => ((k.1, (k.2.1, ((), (v.1, (v.2, ()))))), ((k.2.2.1, (k.2.2.2, ())), ())), fun t => (t.1.1, (t.1.2.1, (t.2.1.1, t.2.1.2.1))), fun t => (t.1.2.2.2.1, t.1.2.2.2.2.1), wai, fun _ r => .l (.exit 0 (mkSt ((ys [7] Zg)) ((r, ()), ())))⟩
noncomputable def wrj (a1_ : Y1) (a2_ : List Y1) (a3_ : Int) (a4_ : Y1) : Tr (Int) :=
 .g (inR 0 (length a4_)) <|
 .c (Int) (wcc (a3_, (a4_, (a1_, a2_))) ((getD a4_ (toNat 0) 0), (1 : Int))) fun r8_ =>
 .l r8_
noncomputable def wkv (a1_ : Y1) (a2_ : List Y1) (a3_ : Int) (a4_ : Y1) : Option (Int) := (wrj a1_ a2_ a3_ a4_).ev
noncomputable def waib : RetK := yr [.tmp 6] Zg
noncomputable def wrk : FD := yd (yj [.agg Ze, .dat yi, .dat y1]) [] [] Int (fun x => wkv x.1.1.1 x.1.1.2.1 x.1.2.1 x.1.2.2.1) (fun r => ([.dat yi r], []))
noncomputable def wrl : Env := envOf []
noncomputable def wrm : List (Nat × LD) := [(0, wee)]
noncomputable def wrn : Code := (f262.body).getD .skip
noncomputable def wro (a1_ : Y1) (a2_ : List Y1) (a3_ : Int) (a4_ : Y1) : Tr (Int) :=
 .g (inR a3_ (length a2_)) <|
 .c (Int) (wkv a1_ a2_ a3_ a4_) fun r1_ =>
 .g (inR r1_ (length (getD a2_ (toNat a3_) ([] : Y1)))) <|
 .l (getD (getD a2_ (toNat a3_) ([] : Y1)) (toNat r1_) (0 : Int))
noncomputable def wkw (a1_ : Y1) (a2_ : List Y1) (a3_ : Int) (a4_ : Y1) : Option (Int) := (wro a1_ a2_ a3_ a4_).ev
noncomputable def waic : RetK := yr [.tmp 6] Zg
noncomputable def wrp : FD := yd (yj [.agg Ze, .dat yi, .dat y1]) [] [] Int (fun x => wkw x.1.1.1 x.1.1.2.1 x.1.2.1 x.1.2.2.1) (fun r => ([.dat yi r], []))
noncomputable def wbd (k : Y1 × Yv) (v : Int × Int) : Tr (Yq ⊕ (Int)) :=
 .t (decide (v.2 < ((length k.2.2 : Nat) : Int)))
 (.c (Int) (wkw k.2.1 k.2.2 v.2 k.1) fun r6_ =>
 .l (.inl ((wrap .i64 (v.1 + r6_)), (wrap .i64 (v.2 + 1)))))
 (.l (.inr v.1))
noncomputable def whd (k : Y1 × Yv) (v : Int × Int) : Option (Int) := iter (fun v => (wbd k v).ev) v
noncomputable def wef : LD := ⟨{ acts := [], S := { slots := [1, 2, 5, 6], sh := (yj [.dat y1, .box 2 0, .dat yi, .dat yi]), obs := [(2, .cells Ze)] } }, [(0, (yh [5] Zg))], (yh [] .nil), Y1 × Yv, Int × (Int), Int, fun k v => ((k.1, ((), (v.1, (v.2, ())))), ((k.2.1, (k.2.2, ())), ())), fun t => (t.1.1, (t.2.1.1, t.2.1.2.1)), fun t => (t.1.2.2.1, t.1.2.2.2.1), wbd, fun _ r => .l (.exit 0 (mkSt ((ys [5] Zg)) ((r, ()), ())))⟩
noncomputable def wrq (a1_ : Y1) (a2_ : List Y1) (a3_ : Y1) : Tr (Int) :=
 .c (Int) (whd (a3_, (a1_, a2_)) ((0 : Int), (0 : Int))) fun r8_ =>
 .l r8_
noncomputable def wkx (a1_ : Y1) (a2_ : List Y1) (a3_ : Y1) : Option (Int) := (wrq a1_ a2_ a3_).ev
noncomputable def waid : RetK := yr [.tmp 4] Zg
noncomputable def wrr : FD := yd (yj [.agg Ze, .dat y1]) [] [] Int (fun x => wkx x.1.1.1 x.1.1.2.1 x.1.2.1) (fun r => ([.dat yi r], []))
noncomputable def wrs : Env := envOf [(239, wrp)]
noncomputable def wrt : List (Nat × LD) := [(0, wef)]
noncomputable def wru : Code := (f190.body).getD .skip
noncomputable def wbe (k : Y1 × Yv) (v : Int × Int) : Tr (Yq ⊕ (Int)) :=
 .t (decide (v.2 < ((length k.1 : Nat) : Int)))
 (.g (inR v.2 (length k.1)) <|
 .g (inR (getD k.1 (toNat v.2) 0) (length k.2.1)) <|
 .l (.inl ((wrap .i64 (v.1 + (getD k.2.1 (toNat (getD k.1 (toNat v.2) 0)) (0 : Int)))), (wrap .i64 (v.2 + 1)))))
 (.l (.inr v.1))
noncomputable def whe (k : Y1 × Yv) (v : Int × Int) : Option (Int) := iter (fun v => (wbe k v).ev) v
noncomputable def weg : LD := ⟨{ acts := [], S := { slots := [1, 2, 5, 6], sh := (yj [.dat y1, .box 2 0, .dat yi, .dat yi]), obs := [(2, .cells Ze)] } }, [(0, (yh [5] Zg))], (yh [] .nil), Y1 × Yv, Int × (Int), Int, fun k v => ((k.1, ((), (v.1, (v.2, ())))), ((k.2.1, (k.2.2, ())), ())), fun t => (t.1.1, (t.2.1.1, t.2.1.2.1)), fun t => (t.1.2.2.1, t.1.2.2.2.1), wbe, fun _ r => .l (.exit 0 (mkSt ((ys [5] Zg)) ((r, ()), ())))⟩
noncomputable def wrv (a1_ : Y1) (a2_ : List Y1) (a3_ : Y1) : Tr (Int) :=
 .c (Int) (whe (a3_, (a1_, a2_)) ((0 : Int), (0 : Int))) fun r7_ =>
 .l r7_
noncomputable def wky (a1_ : Y1) (a2_ : List Y1) (a3_ : Y1) : Option (Int) := (wrv a1_ a2_ a3_).ev
noncomputable def waie : RetK := yr [.tmp 4] Zg
noncomputable def wrw : FD := yd (yj [.agg Ze, .dat y1]) [] [] Int (fun x => wky x.1.1.1 x.1.1.2.1 x.1.2.1) (fun r => ([.dat yi r], []))
noncomputable def wrx : Env := envOf []
noncomputable def wry : List (Nat × LD) := [(0, weg)]
noncomputable def wrz : Code := (f191.body).getD .skip
noncomputable def wsa (a1_ : Y1) (a2_ : List Y1) (a3_ : Y1) : Tr (Int) :=
 .c (Int) (wkx a1_ a2_ a3_) fun r1_ =>
 .c (Int) (wky a1_ a2_ a3_) fun r2_ =>
 .l (wrap .i64 (r1_ + r2_))
noncomputable def wcd (a1_ : Y1) (a2_ : List Y1) (a3_ : Y1) : Option (Int) := (wsa a1_ a2_ a3_).ev
noncomputable def waif : RetK := yr [.tmp 4] Zg
noncomputable def wkz : FD := yd (yj [.agg Ze, .dat y1]) [] [] Int (fun x => wcd x.1.1.1 x.1.1.2.1 x.1.2.1) (fun r => ([.dat yi r], []))
noncomputable def waj (k : Y1 × (Y1 × (Y2 × Y2))) (v : Int) : Tr ((Int) ⊕ ((Unit) ⊕ (Nat))) :=
 .t (decide (v < ((length k.2.2.2 : Nat) : Int)))
 (.g (inR v (length k.2.2.2)) <|
 .g (decide ((toNat v) < length k.2.2.2)) <|
 .c (Int) (wcd k.2.1 k.2.2.1 (getD k.2.2.2 (toNat v) ([] : Y1))) fun r7_ =>
 .c (Int) (wcd k.2.1 k.2.2.1 k.1) fun r8_ =>
 .t (decide (r7_ < r8_))
 (.g (inR v (length k.2.2.2)) <|
 .g (decide ((toNat v) < length k.2.2.2)) <|
 .l (.inr (.inr (toNat v))))
 (.l (.inl (wrap .i64 (v + 1)))))
 (.l (.inr (.inl ())))
noncomputable def whf (k : Y1 × (Y1 × (Y2 × Y2))) (v : Int) : Option ((Unit) ⊕ (Nat)) := iter (fun v => (waj k v).ev) v
noncomputable def weh : LD := ⟨{ acts := [], S := { slots := [1, 2, 6, 7], sh := (yj [.dat y1, .box 2 0, .arr 640, .dat yi]), obs := [(2, .cells Ze), (640, .rows 24 3 yi)] } }, [(0, (yh [] .nil))], { acts := [], S := { slots := [4, 5], sh := (yj [.row 640, .dat .bool]), obs := [(640, .rows 24 3 yi)] } }, Y1 × (Y1 × (Y2 × Y2)), Int, (Unit) ⊕ (Nat), fun k v => ((k.1, ((), ((), (v, ())))), ((k.2.1, (k.2.2.1, ())), (k.2.2.2, ()))), fun t => (t.1.1, (t.2.1.1, (t.2.1.2.1, t.2.2.1))), fun t => t.1.2.2.2.1, waj, fun k r => .s (Unit) (Nat) r (fun _ => .l (.exit 0 (mkSt ((ys [] .nil)) ((), ())))) (fun b => .l (.ret (mkSt ({ slots := [4, 5], sh := (yj [.row 640, .dat .bool]), obs := [(640, .rows 24 3 yi)] }) ((b, (true, ())), (k.2.2.2, ())))))⟩
noncomputable def wsb (a1_ : Y1) (a2_ : List Y1) (a3_ : Y1) : Tr Yak :=
 .c Y2 (wku a1_ a2_ a3_) fun r1_ =>
 .c ((Unit) ⊕ (Nat)) (whf (a3_, (a1_, (a2_, r1_))) (0 : Int)) fun r12_ =>
 .s (Unit) (Nat) r12_
 (fun _ => .l (false, ([] : Y1)))
 (fun r14_ => .l (true, (getD r1_ r14_ ([] : Y1))))
noncomputable def whg (a1_ : Y1) (a2_ : List Y1) (a3_ : Y1) : Option Yak := (wsb a1_ a2_ a3_).ev
noncomputable def waig : RetK := { acts := [.pull 4 800000, .ren 31 0, .ren 800000 0], res := [.tmp 4, .tmp 5], sh := (yj [.arr 0, .dat .bool]), obs := [Zal], pins := [] }
noncomputable def wsc : FD := yd (yj [.agg Ze, .dat y1]) [] [] Yak (fun x => whg x.1.1.1 x.1.1.2.1 x.1.2.1) (fun r => ([.arr 0, .dat .bool r.1], [(0, .arr 3 yi r.2)]))
noncomputable def wsd : Env := envOf [(227, wri), (192, wkz)]
noncomputable def wsf : List (Nat × LD) := [(0, weh)]
noncomputable def wsg : Code := (f172.body).getD .skip
noncomputable def wbf (k : Y1 × Y2) (v : Int × (Bool × (Y1 × Y1))) : Tr ((Int × (Bool × (Y1 × Y1))) ⊕ Yab) :=
 .t v.2.1
 (.c Yak (whg k.1 k.2 v.2.2.2) fun r10_ =>
 .l (.inl ((wrap .i64 (v.1 + 1)), (r10_.1, (v.2.2.2, r10_.2)))))
 (.l (.inr (v.1, v.2.2.1)))
noncomputable def wbg (k : Y1 × Y2) (v : Int × (Bool × (Y1 × Y1))) : Option Yab := iter (fun v => (wbf k v).ev) v
noncomputable def wei : LD := ⟨{ acts := [.drop 900707, .pin 7 900707, .pin 9 900709], S := { slots := [2, 7, 8, 9, 10], sh := (yj [.box 2 0, .arr 900707, .dat yi, .arr 900709, .dat .bool]), obs := [(2, .cells Ze), (900707, .arr 3 yi), (900709, .arr 3 yi)] } }, [(0, { acts := [], S := { slots := [7, 8], sh := (yj [.arr 900707, .dat yi]), obs := [(900707, .arr 3 yi)] } })], (yh [] .nil), Y1 × Y2, Int × (Bool × (Y1 × Y1)), Int × Y1, fun k v => (((), ((), (v.1, ((), (v.2.1, ()))))), ((k.1, (k.2, ())), (v.2.2.1, (v.2.2.2, ())))), fun t => (t.2.1.1, t.2.1.2.1), fun t => (t.1.2.2.1, (t.1.2.2.2.2.1, (t.2.2.1, t.2.2.2.1))), wbf, fun _ r => .l (.exit 0 (mkSt ({ slots := [7, 8], sh := (yj [.arr 900707, .dat yi]), obs := [(900707, .arr 3 yi)] }) (((), (r.1, ())), (r.2, ()))))⟩
noncomputable def wsh (a1_ : Y1) (a2_ : List Y1) (a3_ : Y1) : Tr (Int × Yak) :=
 .c (Bool) (wkt a1_ a2_ a3_) fun r1_ =>
 .t (!r1_)
 (.l ((0 : Int), (false, ([] : Y1))))
 (.c Y1 (wbx a3_) fun r2_ =>
 .c Yak (whg a1_ a2_ r2_) fun r3_ =>
 .c Yab (wbg (a1_, a2_) ((0 : Int), (r3_.1, (r2_, r3_.2)))) fun r13_ =>
 .l (r13_.1, (true, r13_.2)))
noncomputable def wla (a1_ : Y1) (a2_ : List Y1) (a3_ : Y1) : Option (Int × Yak) := (wsh a1_ a2_ a3_).ev
noncomputable def waih : RetK := { acts := [.ren 15 0, .ren 900707 0], res := [.tmp 4, .tmp 5, .tmp 6], sh := (yj [.arr 0, .dat yi, .dat .bool]), obs := [Zal], pins := [] }
noncomputable def wsi : FD := yd (yj [.agg Ze, .dat y1]) [] [] (Int × Yak) (fun x => wla x.1.1.1 x.1.1.2.1 x.1.2.1) (fun r => ([.arr 0, .dat yi r.1, .dat .bool r.2.1], [(0, .arr 3 yi r.2.2)]))
noncomputable def wsj : Env := envOf [(101, wrg), (173, wfy), (172, wsc)]
noncomputable def wsk : List (Nat × LD) := [(0, wei)]
noncomputable def wsl : Code := (f78.body).getD .skip
noncomputable def whh (k : Int × Int) (v : Int × Y1) : Tr (Yab ⊕ Y1) :=
 .t (decide (v.1 < k.1))
 (.g (decide (0 ≤ v.1)) <|
 .t ((wrap .i64 (BitVec.toNat ((BitVec.ofInt (IntKind.bits .i64) (Int.fdiv k.2 (2 ^ (min (toNat v.1) (IntKind.bits .i64))))) &&& (BitVec.ofInt (IntKind.bits .i64) (1 : Int))))) == (1 : Int))
 (.g (decide ((length v.2 + length ([v.1] : Y1)) * 8 ≤ 140737488355328)) <|
 .l (.inl ((wrap .i64 (v.1 + 1)), (v.2 ++ ([v.1] : Y1)))))
 (.l (.inl ((wrap .i64 (v.1 + 1)), v.2))))
 (.l (.inr v.2))
noncomputable def wsm (k : Int × Int) (v : Int × Y1) : Option Y1 := iter (fun v => (whh k v).ev) v
noncomputable def wej : LD := ⟨{ acts := [], S := { slots := [0, 1, 5, 6], sh := (yj [.dat yi, .dat yi, .arr 7, .dat yi]), obs := [(7, .arr 3 yi)] } }, [(0, { acts := [], S := { slots := [5], sh := (yj [.arr 7]), obs := [(7, .arr 3 yi)] } })], (yh [] .nil), Int × (Int), Int × Y1, Y1, fun k v => ((k.1, (k.2, ((), (v.1, ())))), (v.2, ())), fun t => (t.1.1, t.1.2.1), fun t => (t.1.2.2.2.1, t.2.1), whh, fun _ r => .l (.exit 0 (mkSt ({ slots := [5], sh := (yj [.arr 7]), obs := [(7, .arr 3 yi)] }) (((), ()), (r, ()))))⟩
noncomputable def wabd (a1_ : Int) (a2_ : Int) : Tr Y1 :=
 .c Y1 (wsm (a1_, a2_) ((0 : Int), ([] : Y1))) fun r6_ =>
 .l r6_
noncomputable def wabe (a1_ : Int) (a2_ : Int) : Option Y1 := (wabd a1_ a2_).ev
noncomputable def waii : RetK := { acts := [.ren 7 0], res := [.tmp 4], sh := Zan, obs := [Zal], pins := [] }
noncomputable def wsn : FD := yd (yj [.dat yi, .dat yi]) [] [] Y1 (fun x => wabe x.1.1 x.1.2.1) (fun r => ([.arr 0], [(0, .arr 3 yi r)]))
noncomputable def wso : Env := envOf []
noncomputable def wsp : List (Nat × LD) := [(0, wej)]
noncomputable def wsq : Code := (f119.body).getD .skip
noncomputable def whj (k : Y1 × Y1) (v : Int) : Tr ((Int) ⊕ ((Unit) ⊕ (Bool))) :=
 .t (decide (v < ((length k.1 : Nat) : Int)))
 (.g (inR v (length k.1)) <|
 .g (inR v (length k.2)) <|
 .t ((getD k.1 (toNat v) 0) != (getD k.2 (toNat v) 0))
 (.g (inR v (length k.1)) <|
 .g (inR v (length k.2)) <|
 .l (.inr (.inr (decide ((getD k.1 (toNat v) 0) < (getD k.2 (toNat v) 0))))))
 (.l (.inl (wrap .i64 (v + 1)))))
 (.l (.inr (.inl ())))
noncomputable def wsr (k : Y1 × Y1) (v : Int) : Option ((Unit) ⊕ (Bool)) := iter (fun v => (whj k v).ev) v
noncomputable def wek : LD := ⟨(yh [0, 1, 5] (yj [.dat y1, .dat y1, .dat yi])), [(0, (yh [] .nil))], (yh [4] Zl), Y1 × Y1, Int, (Unit) ⊕ (Bool), fun k v => ((k.1, (k.2, (v, ()))), ()), fun t => (t.1.1, t.1.2.1), fun t => t.1.2.2.1, whj, fun _ r => .s (Unit) (Bool) r (fun _ => .l (.exit 0 (mkSt ((ys [] .nil)) ((), ())))) (fun b => .l (.ret (mkSt ((ys [4] Zl)) ((b, ()), ()))))⟩
noncomputable def wabf (a1_ : Y1) (a2_ : Y1) : Tr (Bool) :=
 .t (((length a1_ : Nat) : Int) != ((length a2_ : Nat) : Int))
 (.l (decide (((length a1_ : Nat) : Int) < ((length a2_ : Nat) : Int))))
 (.c ((Unit) ⊕ (Bool)) (wsr (a1_, a2_) (0 : Int)) fun r5_ =>
 .s (Unit) (Bool) r5_
 (fun _ => .l false)
 (fun r7_ => .l r7_))
noncomputable def wabg (a1_ : Y1) (a2_ : Y1) : Option (Bool) := (wabf a1_ a2_).ev
noncomputable def waij : RetK := yr [.tmp 4] Zl
noncomputable def wss : FD := yd (yj [.dat y1, .dat y1]) [] [] Bool (fun x => wabg x.1.1 x.1.2.1) (fun r => ([.dat .bool r], []))
noncomputable def wsu : Env := envOf []
noncomputable def wsv : List (Nat × LD) := [(0, wek)]
noncomputable def wsw : Code := (f189.body).getD .skip
noncomputable def whk (k : Int × (Y2 × Yab)) (v : Int) : Tr ((Int) ⊕ (Int)) :=
 .t (decide (0 < v))
 (.g (inR (wrap .i64 (v - 1)) (length k.2.1)) <|
 .c (Bool) (wabg k.2.2.2 (getD k.2.1 (toNat (wrap .i64 (v - 1))) ([] : Y1))) fun r26_ =>
 .t r26_
 (.l (.inl (wrap .i64 (v - 1))))
 (.l (.inr v)))
 (.l (.inr v))
noncomputable def wsx (k : Int × (Y2 × Yab)) (v : Int) : Option (Int) := iter (fun v => (whk k v).ev) v
noncomputable def wel : LD := ⟨{ acts := [], S := { slots := [0, 3, 4, 5, 6], sh := (yj [.dat yi, .dat y2, .dat yi, .arr 1024, .dat yi]), obs := [(1024, .arr 3 yi)] } }, [(2, { acts := [], S := { slots := [0, 3, 4, 5, 6], sh := (yj [.dat yi, .dat y2, .dat yi, .arr 1024, .dat yi]), obs := [(1024, .arr 3 yi)] } })], (yh [] .nil), Int × (Y2 × Yab), Int, Int, fun k v => ((k.1, (k.2.1, (k.2.2.1, ((), (v, ()))))), (k.2.2.2, ())), fun t => (t.1.1, (t.1.2.1, (t.1.2.2.1, t.2.1))), fun t => t.1.2.2.2.2.1, whk, fun k r => .l (.exit 2 (mkSt ({ slots := [0, 3, 4, 5, 6], sh := (yj [.dat yi, .dat y2, .dat yi, .arr 1024, .dat yi]), obs := [(1024, .arr 3 yi)] }) ((k.1, (k.2.1, (k.2.2.1, ((), (r, ()))))), (k.2.2.2, ()))))⟩
noncomputable def whl (k : Int) (v : Y2 × Int) : Tr ((Y2 × Int) ⊕ Y2) :=
 .g (decide (0 ≤ k)) <|
 .t (decide (v.2 < (wrap .i64 ((1 : Int) * 2 ^ (min (toNat k) (IntKind.bits .i64))))))
 (.c Y1 (wabe k v.2) fun r20_ =>
 .c (Int) (wsx (k, (v.1, (v.2, r20_))) ((length v.1 : Nat) : Int)) fun r32_ =>
 .g (decide (0 ≤ r32_) && decide (r32_ ≤ ((length v.1 : Nat) : Int))) <|
 .g (decide ((length ([] : List Y1) + length (List.drop 0 (List.take (toNat r32_) v.1))) * 24 ≤ 140737488355328)) <|
 .g (decide ((length (([] : List Y1) ++ (List.drop 0 (List.take (toNat r32_) v.1))) + length ([r20_] : List Y1)) * 24 ≤ 140737488355328)) <|
 .g (decide (0 ≤ r32_) && decide (r32_ ≤ ((length v.1 : Nat) : Int))) <|
 .g (decide ((length ((([] : List Y1) ++ (List.drop 0 (List.take (toNat r32_) v.1))) ++ ([r20_] : List Y1)) + length (List.drop (toNat r32_) (List.take (length v.1) v.1))) * 24 ≤ 140737488355328)) <|
 .l (.inl ((((([] : List Y1) ++ (List.drop 0 (List.take (toNat r32_) v.1))) ++ ([r20_] : List Y1)) ++ (List.drop (toNat r32_) (List.take (length v.1) v.1))), (wrap .i64 (v.2 + 1)))))
 (.l (.inr v.1))
noncomputable def wsy (k : Int) (v : Y2 × Int) : Option Y2 := iter (fun v => (whl k v).ev) v
noncomputable def wem : LD := ⟨{ acts := [.fz 7, .fz 32], S := (ys [0, 3, 4] (yj [.dat yi, .dat y2, .dat yi])) }, [(0, (yh [3] (yj [.dat y2])))], (yh [] .nil), Int, Y2 × (Int), List Y1, fun k v => ((k, (v.1, (v.2, ()))), ()), fun t => t.1.1, fun t => (t.1.2.1, t.1.2.2.1), whl, fun _ r => .l (.exit 0 (mkSt ((ys [3] (yj [.dat y2]))) ((r, ()), ())))⟩
noncomputable def wabh (a1_ : Int) : Tr Y2 :=
 .c Y2 (wsy a1_ (([] : List Y1), (1 : Int))) fun r34_ =>
 .l r34_
noncomputable def wlb (a1_ : Int) : Option Y2 := (wabh a1_).ev
noncomputable def waik : RetK := yr [.tmp 2] (yj [.dat y2])
noncomputable def wsz : FD := yd Zg [] [] (List Y1) (fun x => wlb x.1.1) (fun r => ([.dat y2 r], []))
noncomputable def wlc : Nat → Nat → List Nat := fun r i => match look [(8, [(0, [3, 5])])] r with
 | some l => (look l i).getD []
 | none => []
noncomputable def wle : Env := envOf [(119, wsn), (189, wss)]
noncomputable def wlf : List (Nat × LD) := [(2, wel), (0, wem)]
noncomputable def wlg : Code := (f96.body).getD .skip
noncomputable def wbh (k : Y2 × Yv) (v : Y1 × Int) : Tr ((Y1 × Int) ⊕ Y1) :=
 .t (decide (v.2 < ((length k.1 : Nat) : Int)))
 (.g (inR v.2 (length k.1)) <|
 .c (Int) (wcd k.2.1 k.2.2 (getD k.1 (toNat v.2) ([] : Y1))) fun r7_ =>
 .c (Int) (wcd k.2.1 k.2.2 v.1) fun r8_ =>
 .t (decide (r7_ < r8_))
 (.g (inR v.2 (length k.1)) <|
 .l (.inl ((getD k.1 (toNat v.2) ([] : Y1)), (wrap .i64 (v.2 + 1)))))
 (.l (.inl (v.1, (wrap .i64 (v.2 + 1))))))
 (.l (.inr v.1))
noncomputable def whm (k : Y2 × Yv) (v : Y1 × Int) : Option Y1 := iter (fun v => (wbh k v).ev) v
noncomputable def wen : LD := ⟨{ acts := [], S := { slots := [1, 3, 4, 5], sh := (yj [.box 1 0, .dat y2, .dat y1, .dat yi]), obs := [(1, .cells Ze)] } }, [(0, (yh [4] (yj [.dat y1])))], (yh [] .nil), Y2 × Yv, Y1 × (Int), Y1, fun k v => (((), (k.1, (v.1, (v.2, ())))), ((k.2.1, (k.2.2, ())), ())), fun t => (t.1.2.1, (t.2.1.1, t.2.1.2.1)), fun t => (t.1.2.2.1, t.1.2.2.2.1), wbh, fun _ r => .l (.exit 0 (mkSt ((ys [4] (yj [.dat y1]))) ((r, ()), ())))⟩
noncomputable def wta (a1_ : Y1) (a2_ : List Y1) : Tr Y1 :=
 .c Y2 (wlb ((length a1_ : Nat) : Int)) fun r1_ =>
 .g (inR 0 (length r1_)) <|
 .c Y1 (whm (r1_, (a1_, a2_)) ((getD r1_ (toNat 0) ([] : Y1)), (1 : Int))) fun r10_ =>
 .l r10_
noncomputable def wlh (a1_ : Y1) (a2_ : List Y1) : Option Y1 := (wta a1_ a2_).ev
noncomputable def wail : RetK := yr [.tmp 2] (yj [.dat y1])
noncomputable def wtb : FD := yd (yj [.agg Ze]) [] [] Y1 (fun x => wlh x.1.1.1 x.1.1.2.1) (fun r => ([.dat y1 r], []))
noncomputable def wtc : Env := envOf [(96, wsz), (192, wkz)]
noncomputable def wtd : List (Nat × LD) := [(0, wen)]
noncomputable def wte : Code := (f247.body).getD .skip
noncomputable def wbi (k : Int × (Int × (Int × (Int × (Y1 × Yag))))) (v : Int × Y2) : Tr (Yam ⊕ Y2) :=
 .t (decide (v.1 < ((length k.2.2.2.2.1 : Nat) : Int)))
 (.g (inR v.1 (length v.2)) <|
 .g (decide ((toNat v.1) < length v.2)) <|
 .g (inR v.1 (length k.2.2.2.2.1)) <|
 .g (decide ((length (getD v.2 (toNat v.1) ([] : Y1)) + length ([(getD k.2.2.2.2.1 (toNat v.1) 0)] : Y1)) * 8 ≤ 140737488355328)) <|
 .g (inR v.1 (length v.2)) <|
 .g (decide ((toNat v.1) < length v.2) && decide ((toNat v.1) = (toNat v.1))) <|
 .l (.inl ((wrap .i64 (v.1 + 1)), (set v.2 (toNat v.1) ((getD v.2 (toNat v.1) ([] : Y1)) ++ ([(getD k.2.2.2.2.1 (toNat v.1) 0)] : Y1))))))
 (.l (.inr v.2))
noncomputable def wdf (k : Int × (Int × (Int × (Int × (Y1 × Yag))))) (v : Int × Y2) : Option Y2 := iter (fun v => (wbi k v).ev) v
noncomputable def weo : LD := ⟨{ acts := [.ownB 4 0 901340 3 yi, .ownB 4 2 901342 3 yi], S := { slots := [3, 4, 5, 6], sh := (yj [.box 3 0, .box 4 0, .box 5 0, .dat yi]), obs := [(3, .cells Zr), Zx, (5, .cells (yj [.arr 708, .arr 709, .arr 710, .dat yi])), (901340, .arr 3 yi), (901342, .arr 3 yi), (708, .arr 3 yi), (709, .rows 24 3 yi), (710, .arr 3 yi)] } }, [(1, { acts := [], S := { slots := [4, 5], sh := (yj [.box 4 0, .box 5 0]), obs := [Zx, (5, .cells (yj [.arr 708, .arr 709, .arr 710, .dat yi])), (901340, .arr 3 yi), (901342, .arr 3 yi), (708, .arr 3 yi), (709, .rows 24 3 yi), (710, .arr 3 yi)] } })], (yh [] .nil), Int × (Int × (Int × (Int × (Y1 × Yag)))), Int × Y2, List Y1, fun k v => (((), ((), ((), (v.1, ())))), ((k.1, (k.2.1, (k.2.2.1, (k.2.2.2.1, (k.2.2.2.2.1, ()))))), (((), ((), ((), (k.2.2.2.2.2.1, ())))), (((), ((), ((), (k.2.2.2.2.2.2.1, ())))), (k.2.2.2.2.2.2.2.1, (k.2.2.2.2.2.2.2.2.1, (k.2.2.2.2.2.2.2.2.2.1, (v.2, (k.2.2.2.2.2.2.2.2.2.2, ()))))))))), fun t => (t.2.1.1, (t.2.1.2.1, (t.2.1.2.2.1, (t.2.1.2.2.2.1, (t.2.1.2.2.2.2.1, (t.2.2.1.2.2.2.1, (t.2.2.2.1.2.2.2.1, (t.2.2.2.2.1, (t.2.2.2.2.2.1, (t.2.2.2.2.2.2.1, t.2.2.2.2.2.2.2.2.1)))))))))), fun t => (t.1.2.2.2.1, t.2.2.2.2.2.2.2.1), wbi, fun k r => .l (.exit 1 (mkSt ({ slots := [4, 5], sh := (yj [.box 4 0, .box 5 0]), obs := [Zx, (5, .cells (yj [.arr 708, .arr 709, .arr 710, .dat yi])), (901340, .arr 3 yi), (901342, .arr 3 yi), (708, .arr 3 yi), (709, .rows 24 3 yi), (710, .arr 3 yi)] }) (((), ((), ())), (((), ((), ((), (k.2.2.2.2.2.1, ())))), (((), ((), ((), (k.2.2.2.2.2.2.1, ())))), (k.2.2.2.2.2.2.2.1, (k.2.2.2.2.2.2.2.2.1, (k.2.2.2.2.2.2.2.2.2.1, (r, (k.2.2.2.2.2.2.2.2.2.2, ()))))))))))⟩
noncomputable def wtf (a1_ : Y1) (a2_ : List Y1) (a3_ : Y1) (a4_ : Int) (a5_ : Int) (a6_ : Int) (a7_ : Int) (a8_ : Int) (a9_ : Y1) : Tr Yh :=
 .c Yh (wfz a1_ a2_ a3_ a4_) fun r1_ =>
 .t (a5_ == 1)
 (.c Y1 (wci r1_.2.2.2 a6_) fun r2_ =>
 .l (r1_.1, (r1_.2.1, (r1_.2.2.1, r2_))))
 (.t (a5_ == 2)
 (.c Y1 (wga r1_.2.2.2 a6_) fun r3_ =>
 .l (r1_.1, (r1_.2.1, (r1_.2.2.1, r3_))))
 (.t (a5_ == 3)
 (.c Y1 (wga r1_.2.2.2 a6_) fun r4_ =>
 .c Y1 (wci r4_ a7_) fun r5_ =>
 .l (r1_.1, (r1_.2.1, (r1_.2.2.1, r5_))))
 (.t (a5_ == 4)
 (.g (inR a6_ (length r1_.2.1)) <|
 .g (decide ((toNat a6_) < length r1_.2.1)) <|
 .l (r1_.1, ((set r1_.2.1 (toNat a6_) a7_), (r1_.2.2.1, r1_.2.2.2))))
 (.t (a5_ == 5)
 (.g (inR a6_ (length r1_.2.2.1)) <|
 .g (decide ((toNat a6_) < length r1_.2.2.1)) <|
 .g (inR a7_ (length (getD r1_.2.2.1 (toNat a6_) ([] : Y1)))) <|
 .g (decide ((toNat a7_) < length (getD r1_.2.2.1 (toNat a6_) ([] : Y1)))) <|
 .l (r1_.1, (r1_.2.1, ((set r1_.2.2.1 (toNat a6_) (set (getD r1_.2.2.1 (toNat a6_) ([] : Y1)) (toNat a7_) a8_)), r1_.2.2.2))))
 (.t (a5_ == 6)
 (.g (decide ((length r1_.2.1 + length ([a6_] : Y1)) * 8 ≤ 140737488355328)) <|
 .c Y2 (wdf (a5_, (a6_, (a7_, (a8_, (a9_, ((0 : Int), (r1_.1, (([] : Y1), (([] : Y1), ((r1_.2.1 ++ ([a6_] : Y1)), r1_.2.2.2)))))))))) ((0 : Int), r1_.2.2.1)) fun r26_ =>
 .l (r1_.1, ((r1_.2.1 ++ ([a6_] : Y1)), (r26_, r1_.2.2.2))))
 (.t (a5_ == 7)
 (.c Y1 (wbx a9_) fun r27_ =>
 .g (decide ((length r1_.2.2.1 + 1) * 24 ≤ 140737488355328)) <|
 .l (r1_.1, (r1_.2.1, ((set (r1_.2.2.1 ++ [[]]) (length r1_.2.2.1) r27_), r1_.2.2.2))))
 (.t (a5_ == 8)
 (.c Yh (wko a1_ a2_ a3_ a4_ a6_) fun r28_ =>
 .l (r28_.1, (r28_.2.1, (r28_.2.2.1, r28_.2.2.2))))
 (.t (a5_ == 9)
 (.g (decide (0 ≤ a6_) && decide (a6_ ≤ ((length r1_.2.2.1 : Nat) : Int))) <|
 .g (decide ((0 : Int) ≤ (wrap .i64 (a6_ + 1))) && decide ((wrap .i64 (a6_ + 1)) ≤ ((length r1_.2.2.1 : Nat) : Int))) <|
 .g (decide ((toNat a6_) ≤ (toNat (wrap .i64 (a6_ + 1)))) && decide (((toNat a6_) + (length r1_.2.2.1 - (toNat (wrap .i64 (a6_ + 1))))) * 24 ≤ 140737488355328)) <|
 .l (r1_.1, (r1_.2.1, ((List.take (toNat a6_) r1_.2.2.1 ++ List.drop (toNat (wrap .i64 (a6_ + 1))) r1_.2.2.1), r1_.2.2.2))))
 (.t (a5_ == 10)
 (.c (Int × Yak) (wla a1_ a2_ a3_) fun r29_ =>
 .l (r1_.1, (r1_.2.1, (r1_.2.2.1, r29_.2.2))))
 (.t (a5_ == 11)
 (.c Y1 (wlh a1_ a2_) fun r30_ =>
 .c Y1 (wbx r30_) fun r31_ =>
 .l (r1_.1, (r1_.2.1, (r1_.2.2.1, r31_))))
 (.l (r1_.1, (r1_.2.1, (r1_.2.2.1, r1_.2.2.2))))))))))))))
noncomputable def wli (a1_ : Y1) (a2_ : List Y1) (a3_ : Y1) (a4_ : Int) (a5_ : Int) (a6_ : Int) (a7_ : Int) (a8_ : Int) (a9_ : Y1) : Option Yh := (wtf a1_ a2_ a3_ a4_ a5_ a6_ a7_ a8_ a9_).ev
noncomputable def waim : RetK := { acts := [.pinB 4 0 1, .pinB 4 1 6, .pinB 4 2 7], res := [.cell 4 68], sh := (yj [.agg (yj [.arr 1, .arr 6, .arr 7, .dat yi])]), obs := [(1, .arr 3 yi), (6, .rows 24 3 yi), (7, .arr 3 yi)], pins := [] }
noncomputable def wtg : FD := yd (yj [.agg Zj, .agg Zr]) [] [] Yh (fun x => wli x.1.1.1 x.1.1.2.1 x.1.1.2.2.1 x.1.1.2.2.2.1 x.1.2.1.1 x.1.2.1.2.1 x.1.2.1.2.2.1 x.1.2.1.2.2.2.1 x.1.2.1.2.2.2.2.1) (fun r => ([.agg [.arr 1, .arr 6, .arr 7, .dat yi r.1]], [(1, .arr 3 yi r.2.1), (6, .rows 24 3 yi r.2.2.1 none), (7, .arr 3 yi r.2.2.2)]))
noncomputable def wth : Env := envOf [(156, wgr), (169, wkm), (245, wkn), (173, wfy), (246, wre), (78, wsi), (247, wtb)]
noncomputable def wti : List (Nat × LD) := [(1, weo)]
noncomputable def wtj : Code := (f211.body).getD .skip
noncomputable def wtk (a1_ : Y1) (a2_ : List Y1) (a3_ : Y1) (a4_ : Int) (a5_ : Int) (a6_ : Int) (a7_ : Int) (a8_ : Int) (a9_ : Y1) : Tr Yt :=
 .c (Bool) (wkj a5_ a6_ a7_ a8_ a9_) fun r1_ =>
 .t (!r1_)
 (.l ((0 : Int), (false, (([] : Y1), (([] : List Y1), ([] : Y1))))))
 (.c (Bool) (wkl a1_ a2_ a3_ a4_ a5_ a6_ a7_ a8_ a9_) fun r2_ =>
 .t (!r2_)
 (.l ((0 : Int), (false, (([] : Y1), (([] : List Y1), ([] : Y1))))))
 (.c Yh (wli a1_ a2_ a3_ a4_ a5_ a6_ a7_ a8_ a9_) fun r3_ =>
 .c (Bool) (wgp r3_.2.1 r3_.2.2.1 r3_.2.2.2 (wrap .i64 (a4_ + 1))) fun r4_ =>
 .t (!r4_)
 (.l ((0 : Int), (false, (([] : Y1), (([] : List Y1), ([] : Y1))))))
 (.l ((wrap .i64 (a4_ + 1)), (true, (r3_.2.1, (r3_.2.2.1, r3_.2.2.2)))))))
noncomputable def wlj (a1_ : Y1) (a2_ : List Y1) (a3_ : Y1) (a4_ : Int) (a5_ : Int) (a6_ : Int) (a7_ : Int) (a8_ : Int) (a9_ : Y1) : Option Yt := (wtk a1_ a2_ a3_ a4_ a5_ a6_ a7_ a8_ a9_).ev
noncomputable def wain : RetK := { acts := [.ownB 4 0 5 3 yi, .ownRB 4 1 7 24 3 yi, .ownB 4 2 8 3 yi, .ren 1217 5, .ren 1222 7, .ren 1223 8], res := [.cell 4 68, .tmp 5], sh := (yj [.agg (yj [.arr 5, .arr 7, .arr 8, .dat yi]), .dat .bool]), obs := [(5, .arr 3 yi), (7, .rows 24 3 yi), (8, .arr 3 yi)], pins := [] }
noncomputable def wtl : FD := yd (yj [.agg Zj, .agg Zr]) [] [] Yt (fun x => wlj x.1.1.1 x.1.1.2.1 x.1.1.2.2.1 x.1.1.2.2.2.1 x.1.2.1.1 x.1.2.1.2.1 x.1.2.1.2.2.1 x.1.2.1.2.2.2.1 x.1.2.1.2.2.2.2.1) (fun r => ([.agg [.arr 5, .arr 7, .arr 8, .dat yi r.1], .dat .bool r.2.1], [(5, .arr 3 yi r.2.2.1), (7, .rows 24 3 yi r.2.2.2.1 none), (8, .arr 3 yi r.2.2.2.2)]))
noncomputable def wz (k : (List Yd) × Int) (v : Int × Yu) : Tr ((Int × Yu) ⊕ (Yu ⊕ (Int × Yu))) :=
 .t (decide (v.1 < ((length k.1 : Nat) : Int)))
 (.g (inR v.1 (length k.1)) <|
 .c Yt (wlj v.2.1 v.2.2.1 v.2.2.2.1 v.2.2.2.2 ((getD k.1 (toNat v.1) ((0 : Int), ((0 : Int), ((0 : Int), ((0 : Int), ([] : Y1)))))).1) ((getD k.1 (toNat v.1) ((0 : Int), ((0 : Int), ((0 : Int), ((0 : Int), ([] : Y1)))))).2.1) ((getD k.1 (toNat v.1) ((0 : Int), ((0 : Int), ((0 : Int), ((0 : Int), ([] : Y1)))))).2.2.1) ((getD k.1 (toNat v.1) ((0 : Int), ((0 : Int), ((0 : Int), ((0 : Int), ([] : Y1)))))).2.2.2.1) ((getD k.1 (toNat v.1) ((0 : Int), ((0 : Int), ((0 : Int), ((0 : Int), ([] : Y1)))))).2.2.2.2)) fun r34_ =>
 .t (!r34_.2.1)
 (.l (.inr (.inr (v.1, (v.2.1, (v.2.2.1, (v.2.2.2.1, v.2.2.2.2)))))))
 (.l (.inl ((wrap .i64 (v.1 + 1)), (r34_.2.2.1, (r34_.2.2.2.1, (r34_.2.2.2.2, r34_.1)))))))
 (.l (.inr (.inl (v.2.1, (v.2.2.1, (v.2.2.2.1, v.2.2.2.2))))))
noncomputable def wbj (k : (List Yd) × Int) (v : Int × Yu) : Option (Yu ⊕ (Int × Yu)) := iter (fun v => (wz k v).ev) v
noncomputable def wep : LD := ⟨{ acts := [.fz 1028, .fz 1029, .fz 1030, .fz 1861, .fz 1863, .fz 1864], S := { slots := [1, 4, 7, 8], sh := (yj [.dat (.slice (.pair yi (.pair yi (.pair yi (.pair yi y1))))), .box 4 0, .box 7 0, .dat yi]), obs := [Zk, (7, .cells Zj)] } }, [(0, { acts := [], S := { slots := [1, 4, 7], sh := (yj [.dat (.slice (.pair yi (.pair yi (.pair yi (.pair yi y1))))), .box 4 0, .box 7 0]), obs := [Zk, (7, .cells Zj)] } })], { acts := [], S := { slots := [4, 5, 6], sh := (yj [.box 4 0, .dat yi, .dat .bool]), obs := [(4, .cells Zj)] } }, (List Yd) × (Int), Int × Yu, Yu ⊕ (Int × Yu), fun k v => ((k.1, ((), ((), (v.1, ())))), (((), ((), ((), (k.2, ())))), ((v.2.1, (v.2.2.1, (v.2.2.2.1, (v.2.2.2.2, ())))), ()))), fun t => (t.1.1, t.2.1.2.2.2.1), fun t => (t.1.2.2.2.1, (t.2.2.1.1, (t.2.2.1.2.1, (t.2.2.1.2.2.1, t.2.2.1.2.2.2.1)))), wz, fun k r => .s Yu (Int × Yu) r (fun a => .l (.exit 0 (mkSt ({ slots := [1, 4, 7], sh := (yj [.dat (.slice (.pair yi (.pair yi (.pair yi (.pair yi y1))))), .box 4 0, .box 7 0]), obs := [Zk, (7, .cells Zj)] }) ((k.1, ((), ((), ()))), (((), ((), ((), (k.2, ())))), ((a.1, (a.2.1, (a.2.2.1, (a.2.2.2, ())))), ())))))) (fun b => .l (.ret (mkSt ({ slots := [4, 5, 6], sh := (yj [.box 4 0, .dat yi, .dat .bool]), obs := [(4, .cells Zj)] }) (((), (b.1, (true, ()))), ((b.2.1, (b.2.2.1, (b.2.2.2.1, (b.2.2.2.2, ())))), ())))))⟩
noncomputable def wlk (a1_ : Y1) (a2_ : List Y1) (a3_ : Y1) (a4_ : Int) (a5_ : List Yd) : Tr (Y1 × (Y2 × (Y1 × (Int × (Int × (Bool)))))) :=
 .c (Bool) (wgp a1_ a2_ a3_ a4_) fun r1_ =>
 .t (!r1_)
 (.l (([] : Y1), (([] : List Y1), (([] : Y1), ((0 : Int), ((0 : Int), false))))))
 (.c Yh (wfz a1_ a2_ a3_ a4_) fun r2_ =>
 .c (Yu ⊕ (Int × Yu)) (wbj (a5_, (0 : Int)) ((0 : Int), (r2_.2.1, (r2_.2.2.1, (r2_.2.2.2, r2_.1))))) fun r47_ =>
 .s Yu (Int × Yu) r47_
 (fun r48_ => .l (r48_.1, (r48_.2.1, (r48_.2.2.1, (r48_.2.2.2, (((length a5_ : Nat) : Int), true))))))
 (fun r49_ => .l (r49_.2.1, (r49_.2.2.1, (r49_.2.2.2.1, (r49_.2.2.2.2, (r49_.1, true)))))))
noncomputable def wgb (a1_ : Y1) (a2_ : List Y1) (a3_ : Y1) (a4_ : Int) (a5_ : List Yd) : Option (Y1 × (Y2 × (Y1 × (Int × (Int × (Bool)))))) := (wlk a1_ a2_ a3_ a4_ a5_).ev
noncomputable def waio : RetK := yr [.cell 4 68, .tmp 5, .tmp 6] (yj [.agg Zj, .dat yi, .dat .bool])
noncomputable def wtm : FD := yd (yj [.agg Zj, .dat (.slice (.pair yi (.pair yi (.pair yi (.pair yi y1)))))]) [] [] (Y1 × (Y2 × (Y1 × (Int × (Int × (Bool)))))) (fun x => wgb x.1.1.1 x.1.1.2.1 x.1.1.2.2.1 x.1.1.2.2.2.1 x.1.2.1) (fun r => ([.agg [.dat y1 r.1, .dat y2 r.2.1, .dat y1 r.2.2.1, .dat yi r.2.2.2.1], .dat yi r.2.2.2.2.1, .dat .bool r.2.2.2.2.2], []))
noncomputable def wtn : Env := envOf [(135, wki), (156, wgr), (136, wtl)]
noncomputable def wto : List (Nat × LD) := [(0, wep)]
noncomputable def wtp : Code := (f52.body).getD .skip
noncomputable def wtq (a1_ : Int) (a2_ : Int) (a3_ : Int) : Tr (Bool) :=
 .t (decide (a2_ ≤ a1_))
 (.l (decide (a1_ ≤ a3_)))
 (.l false)
noncomputable def wby (a1_ : Int) (a2_ : Int) (a3_ : Int) : Option (Bool) := (wtq a1_ a2_ a3_).ev
noncomputable def waip : RetK := yr [.tmp 6] Zl
noncomputable def wcj : FD := yd (yj [.dat yi, .dat yi, .dat yi]) [] [] Bool (fun x => wby x.1.1 x.1.2.1 x.1.2.2.1) (fun r => ([.dat .bool r], []))
noncomputable def wbk (k : Y1 × (((HL [yi] → Option (Bool))) × Int)) (v : Int) : Tr ((Int) ⊕ ((Unit) ⊕ (Int))) :=
 .t (decide (v < k.2.2))
 (.g (inR v (length k.1)) <|
 .c (Bool) (k.2.1 ((getD k.1 (toNat v) 0), ())) fun r5_ =>
 .t r5_
 (.l (.inr (.inr v)))
 (.l (.inl (wrap .i64 (v + 1)))))
 (.l (.inr (.inl ())))
noncomputable def whn (k : Y1 × (((HL [yi] → Option (Bool))) × Int)) (v : Int) : Option ((Unit) ⊕ (Int)) := iter (fun v => (wbk k v).ev) v
noncomputable def weq : LD := ⟨(yh [0, 1, 7, 8] (yj [.dat y1, .clo [yi] .bool, .dat yi, .dat yi])), [(0, (yh [] .nil))], (yh [4] Zg), Y1 × (((HL [yi] → Option (Bool))) × Int), Int, (Unit) ⊕ (Int), fun k v => ((k.1, (k.2.1, (k.2.2, (v, ())))), ()), fun t => (t.1.1, (t.1.2.1, t.1.2.2.1)), fun t => t.1.2.2.2.1, wbk, fun _ r => .s (Unit) (Int) r (fun _ => .l (.exit 0 (mkSt ((ys [] .nil)) ((), ())))) (fun b => .l (.ret (mkSt ((ys [4] Zg)) ((b, ()), ()))))⟩
noncomputable def wtr (a1_ : Y1) (a2_ : (HL [yi] → Option (Bool))) : Tr (Int) :=
 .c ((Unit) ⊕ (Int)) (whn (a1_, (a2_, ((length a1_ : Nat) : Int))) (0 : Int)) fun r7_ =>
 .s (Unit) (Int) r7_
 (fun _ => .l (-1 : Int))
 (fun r9_ => .l r9_)
noncomputable def wll (a1_ : Y1) (a2_ : (HL [yi] → Option (Bool))) : Option (Int) := (wtr a1_ a2_).ev
noncomputable def waiq : RetK := yr [.tmp 4] Zg
noncomputable def wts : FD := yd (yj [.dat y1, .clo [yi] .bool]) [] [] Int (fun x => wll x.1.1 x.1.2.1) (fun r => ([.dat yi r], []))
noncomputable def wtu : Env := envOf []
noncomputable def wtv : List (Nat × LD) := [(0, weq)]
noncomputable def wtw : Code := (f206.body).getD .skip
noncomputable def wtx (a1_ : Y1) (a2_ : (HL [yi] → Option (Bool))) : Tr (Bool) :=
 .c (Int) (wll a1_ a2_) fun r1_ =>
 .l (decide (0 ≤ r1_))
noncomputable def wlm (a1_ : Y1) (a2_ : (HL [yi] → Option (Bool))) : Option (Bool) := (wtx a1_ a2_).ev
noncomputable def wair : RetK := yr [.tmp 4] Zl
noncomputable def wln : FD := yd (yj [.dat y1, .clo [yi] .bool]) [] [] Bool (fun x => wlm x.1.1 x.1.2.1) (fun r => ([.dat .bool r], []))
noncomputable def T_zy (a1_ : Int) (a2_ : Int) (a3_ : Int) : Tr (Bool) :=
 .c (Bool) (wby a1_ a2_ a3_) fun r1_ =>
 .l (!r1_)
noncomputable def F_zy (a1_ : Int) (a2_ : Int) (a3_ : Int) : Option (Bool) := (T_zy a1_ a2_ a3_).ev
noncomputable def K_zy : RetK := yr [.tmp 4] Zl
noncomputable def D_zy : FD := yd (yj [.dat yi, .ptr Zg, .ptr Zg]) [] [] Bool (fun x => F_zy x.1.1 x.1.2.1.1 x.1.2.2.1.1) (fun r => ([.dat .bool r], []))
noncomputable def T_zx (a1_ : Y1) (a2_ : Int) (a3_ : Int) : Tr (Bool) :=
 .c (Bool) (wlm a1_ (fun h1_ => Option.bind (F_zy h1_.1 a2_ a3_) fun y2_ => some y2_)) fun r3_ =>
 .l (!r3_)
noncomputable def F_zx (a1_ : Y1) (a2_ : Int) (a3_ : Int) : Option (Bool) := (T_zx a1_ a2_ a3_).ev
noncomputable def K_zx : RetK := yr [.tmp 6] Zl
noncomputable def D_zx : FD := yd Zae [] [] Bool (fun x => F_zx x.1.1 x.1.2.1 x.1.2.2.1) (fun r => ([.dat .bool r], []))
noncomputable def wbl (k : Y2 × (((HL [y1] → Option (Bool))) × Int)) (v : Int) : Tr ((Int) ⊕ ((Unit) ⊕ (Int))) :=
 .t (decide (v < k.2.2))
 (.g (inR v (length k.1)) <|
 .c (Bool) (k.2.1 ((getD k.1 (toNat v) ([] : Y1)), ())) fun r5_ =>
 .t r5_
 (.l (.inr (.inr v)))
 (.l (.inl (wrap .i64 (v + 1)))))
 (.l (.inr (.inl ())))
noncomputable def whp (k : Y2 × (((HL [y1] → Option (Bool))) × Int)) (v : Int) : Option ((Unit) ⊕ (Int)) := iter (fun v => (wbl k v).ev) v
noncomputable def wer : LD := ⟨(yh [0, 1, 7, 8] (yj [.dat y2, .clo [y1] .bool, .dat yi, .dat yi])), [(0, (yh [] .nil))], (yh [4] Zg), Y2 × (((HL [y1] → Option (Bool))) × Int), Int, (Unit) ⊕ (Int), fun k v => ((k.1, (k.2.1, (k.2.2, (v, ())))), ()), fun t => (t.1.1, (t.1.2.1, t.1.2.2.1)), fun t => t.1.2.2.2.1, wbl, fun _ r => .s (Unit) (Int) r (fun _ => .l (.exit 0 (mkSt ((ys [] .nil)) ((), ())))) (fun b => .l (.ret (mkSt ((ys [4] Zg)) ((b, ()), ()))))⟩
noncomputable def wty (a1_ : List Y1) (a2_ : (HL [y1] → Option (Bool))) : Tr (Int) :=
 .c ((Unit) ⊕ (Int)) (whp (a1_, (a2_, ((length a1_ : Nat) : Int))) (0 : Int)) fun r7_ =>
 .s (Unit) (Int) r7_
 (fun _ => .l (-1 : Int))
 (fun r9_ => .l r9_)
noncomputable def wlp (a1_ : List Y1) (a2_ : (HL [y1] → Option (Bool))) : Option (Int) := (wty a1_ a2_).ev
noncomputable def waix : RetK := yr [.tmp 4] Zg
noncomputable def wtz : FD := yd (yj [.dat y2, .clo [y1] .bool]) [] [] Int (fun x => wlp x.1.1 x.1.2.1) (fun r => ([.dat yi r], []))
noncomputable def wua : Env := envOf []
noncomputable def wub : List (Nat × LD) := [(0, wer)]
noncomputable def wuc : Code := (f131.body).getD .skip
noncomputable def wud (a1_ : List Y1) (a2_ : (HL [y1] → Option (Bool))) : Tr (Bool) :=
 .c (Int) (wlp a1_ a2_) fun r1_ =>
 .l (decide (0 ≤ r1_))
noncomputable def wlq (a1_ : List Y1) (a2_ : (HL [y1] → Option (Bool))) : Option (Bool) := (wud a1_ a2_).ev
noncomputable def waiy : RetK := yr [.tmp 4] Zl
noncomputable def wlr : FD := yd (yj [.dat y2, .clo [y1] .bool]) [] [] Bool (fun x => wlq x.1.1 x.1.2.1) (fun r => ([.dat .bool r], []))
noncomputable def T_zv (a1_ : Y1) (a2_ : Y1) (_a3_ : List Y1) : Tr (Bool) :=
 .t (((length a1_ : Nat) : Int) != ((length a2_ : Nat) : Int))
 (.l true)
 (.c (Bool) (F_zx a1_ (0 : Int) (99 : Int)) fun r1_ =>
 .l (!r1_))
noncomputable def F_zv (a1_ : Y1) (a2_ : Y1) (a3_ : List Y1) : Option (Bool) := (T_zv a1_ a2_ a3_).ev
noncomputable def K_zv : RetK := yr [.tmp 3] Zl
noncomputable def D_zv : FD := yd (yj [.dat y1, .ptr Ze]) [] [] Bool (fun x => F_zv x.1.1 x.1.2.1.1 x.1.2.1.2.1) (fun r => ([.dat .bool r], []))
noncomputable def T_zu (a1_ : Y1) (a2_ : List Y1) : Tr (Bool) :=
 .c (Bool) (wby ((length a1_ : Nat) : Int) (1 : Int) (7 : Int)) fun r1_ =>
 .t r1_
 (.c (Bool) (F_zx a1_ (0 : Int) (99 : Int)) fun r2_ =>
 .t r2_
 (.t (decide (((length a2_ : Nat) : Int) ≤ (7 : Int)))
 (.c (Bool) (wlq a2_ (fun h3_ => Option.bind (F_zv h3_.1 a1_ a2_) fun y4_ => some y4_)) fun r5_ =>
 .l (!r5_))
 (.l false))
 (.l false))
 (.l false)
noncomputable def F_zu (a1_ : Y1) (a2_ : List Y1) : Option (Bool) := (T_zu a1_ a2_).ev
noncomputable def K_zu : RetK := yr [.tmp 2] Zl
noncomputable def D_zu : FD := yd (yj [.agg Ze]) [] [] Bool (fun x => F_zu x.1.1.1 x.1.1.2.1) (fun r => ([.dat .bool r], []))
noncomputable def wak (k : Y1 × (Int × (Y1 × Int))) (v : Int) : Tr ((Int) ⊕ ((Unit) ⊕ (Unit))) :=
 .t (decide (v < k.2.2.2))
 (.g (inR v (length k.2.2.1)) <|
 .c (Bool) (wby (getD k.2.2.1 (toNat v) 0) (0 : Int) (wrap .i64 (k.2.1 - 1))) fun r6_ =>
 .t (!r6_)
 (.l (.inr (.inr ())))
 (.t (decide (0 < v))
 (.g (inR (wrap .i64 (v - 1)) (length k.1)) <|
 .t (decide ((getD k.2.2.1 (toNat v) 0) ≤ (getD k.1 (toNat (wrap .i64 (v - 1))) (0 : Int))))
 (.l (.inr (.inr ())))
 (.l (.inl (wrap .i64 (v + 1)))))
 (.l (.inl (wrap .i64 (v + 1))))))
 (.l (.inr (.inl ())))
noncomputable def whq (k : Y1 × (Int × (Y1 × Int))) (v : Int) : Option ((Unit) ⊕ (Unit)) := iter (fun v => (wak k v).ev) v
noncomputable def wes : LD := ⟨(yh [0, 1, 7, 8, 9] (yj [.dat y1, .dat yi, .dat y1, .dat yi, .dat yi])), [(0, (yh [] .nil))], (yh [4] Zl), Y1 × (Int × (Y1 × Int)), Int, (Unit) ⊕ (Unit), fun k v => ((k.1, (k.2.1, (k.2.2.1, (k.2.2.2, (v, ()))))), ()), fun t => (t.1.1, (t.1.2.1, (t.1.2.2.1, t.1.2.2.2.1))), fun t => t.1.2.2.2.2.1, wak, fun _ r => .s (Unit) (Unit) r (fun _ => .l (.exit 0 (mkSt ((ys [] .nil)) ((), ())))) (fun _ => .l (.ret (mkSt ((ys [4] Zl)) ((false, ()), ()))))⟩
noncomputable def wue (a1_ : Y1) (a2_ : Int) : Tr (Bool) :=
 .c ((Unit) ⊕ (Unit)) (whq (a1_, (a2_, (a1_, ((length a1_ : Nat) : Int)))) (0 : Int)) fun r8_ =>
 .s (Unit) (Unit) r8_
 (fun _ => .l true)
 (fun _ => .l false)
noncomputable def whr (a1_ : Y1) (a2_ : Int) : Option (Bool) := (wue a1_ a2_).ev
noncomputable def wajc : RetK := yr [.tmp 4] Zl
noncomputable def wls : FD := yd (yj [.dat y1, .dat yi]) [] [] Bool (fun x => whr x.1.1 x.1.2.1) (fun r => ([.dat .bool r], []))
noncomputable def wuf : Env := envOf [(104, wcj)]
noncomputable def wug : List (Nat × LD) := [(0, wes)]
noncomputable def wuh : Code := (f117.body).getD .skip
noncomputable def T_zt (a1_ : Y1) (a2_ : List Y1) (a3_ : Y1) (a4_ : Int) : Tr (Bool) :=
 .c (Bool) (F_zu a1_ a2_) fun r1_ =>
 .t r1_
 (.c (Bool) (whr a3_ ((length a1_ : Nat) : Int)) fun r2_ =>
 .t r2_
 (.c (Bool) (wby a4_ (0 : Int) (1000 : Int)) fun r3_ =>
 .l r3_)
 (.l false))
 (.l false)
noncomputable def wao (a1_ : Y1) (a2_ : List Y1) (a3_ : Y1) (a4_ : Int) : Option (Bool) := (T_zt a1_ a2_ a3_ a4_).ev
noncomputable def K_zt : RetK := yr [.tmp 2] Zl
noncomputable def D_zt : FD := yd (yj [.agg Zj]) [] [] Bool (fun x => wao x.1.1.1 x.1.1.2.1 x.1.1.2.2.1 x.1.1.2.2.2.1) (fun r => ([.dat .bool r], []))
noncomputable def wce (a1_ : Y1) : Option (List Int) := cloneF a1_
noncomputable def whs : FD := fdClone
noncomputable def wbm (k : Y2 × Int) (v : Int × Y2) : Tr (Yam ⊕ Y2) :=
 .t (decide (v.1 < k.2))
 (.g (inR v.1 (length k.1)) <|
 .c (List Int) (wce (getD k.1 (toNat v.1) ([] : Y1))) fun r5_ =>
 .g (decide ((length v.2 + 1) * 24 ≤ 140737488355328)) <|
 .l (.inl ((wrap .i64 (v.1 + 1)), (set (v.2 ++ [[]]) (length v.2) r5_))))
 (.l (.inr v.2))
noncomputable def wht (k : Y2 × Int) (v : Int × Y2) : Option Y2 := iter (fun v => (wbm k v).ev) v
noncomputable def wet : LD := ⟨{ acts := [], S := { slots := [3, 7, 8, 9], sh := (yj [.arr 6, .dat y2, .dat yi, .dat yi]), obs := [(6, .rows 24 3 yi)] } }, [(0, { acts := [], S := { slots := [3], sh := (yj [.arr 6]), obs := [(6, .rows 24 3 yi)] } })], (yh [] .nil), Y2 × (Int), Int × Y2, List Y1, fun k v => (((), (k.1, (k.2, (v.1, ())))), (v.2, ())), fun t => (t.1.2.1, t.1.2.2.1), fun t => (t.1.2.2.2.1, t.2.1), wbm, fun _ r => .l (.exit 0 (mkSt ({ slots := [3], sh := (yj [.arr 6]), obs := [(6, .rows 24 3 yi)] }) (((), ()), (r, ()))))⟩
noncomputable def wui (a1_ : List Y1) : Tr Y2 :=
 .c Y2 (wht (a1_, ((length a1_ : Nat) : Int)) ((0 : Int), ([] : List Y1))) fun r7_ =>
 .l r7_
noncomputable def wlt (a1_ : List Y1) : Option Y2 := (wui a1_).ev
noncomputable def waje : RetK := { acts := [.ren 6 0], res := [.tmp 2], sh := Zan, obs := [(0, .rows 24 3 yi)], pins := [] }
noncomputable def wuj : FD := yd (yj [.dat y2]) [] [] (List Y1) (fun x => wlt x.1.1) (fun r => ([.arr 0], [(0, .rows 24 3 yi r none)]))
noncomputable def wuk : Nat → Nat → List Nat := fun r i => match look [(1, [(0, [1000000])])] r with
 | some l => (look l i).getD []
 | none => []
noncomputable def wul : Env := envOf [(146, whs)]
noncomputable def wum : List (Nat × LD) := [(0, wet)]
noncomputable def wun : Code := (f214.body).getD .skip
noncomputable def T_zd (a1_ : Y1) (a2_ : List Y1) (a3_ : Y1) (a4_ : Int) : Tr Yh :=
 .c (List Int) (wce a1_) fun r1_ =>
 .c Y2 (wlt a2_) fun r2_ =>
 .c (List Int) (wce a3_) fun r3_ =>
 .l (a4_, (r1_, (r2_, r3_)))
noncomputable def F_zd (a1_ : Y1) (a2_ : List Y1) (a3_ : Y1) (a4_ : Int) : Option Yh := (T_zd a1_ a2_ a3_ a4_).ev
noncomputable def K_zd : RetK := { acts := [.ren 384 3, .ren 640 4, .ren 896 5], res := [.cell 2 68], sh := (yj [.agg (yj [.arr 3, .arr 4, .arr 5, .dat yi])]), obs := [(3, .arr 3 yi), (4, .rows 24 3 yi), (5, .arr 3 yi)], pins := [] }
noncomputable def D_zd : FD := yd (yj [.agg Zj]) [] [] Yh (fun x => F_zd x.1.1.1 x.1.1.2.1 x.1.1.2.2.1 x.1.1.2.2.2.1) (fun r => ([.agg [.arr 3, .arr 4, .arr 5, .dat yi r.1]], [(3, .arr 3 yi r.2.1), (4, .rows 24 3 yi r.2.2.1 none), (5, .arr 3 yi r.2.2.2)]))
noncomputable def wuo (a1_ : Int) : Tr (Int × (Bool × (Bool))) :=
 .t (a1_ == 1)
 (.t (a1_ == 1)
 (.l ((1 : Int), (false, true)))
 (.t (a1_ == 3)
 (.t (a1_ == 3)
 (.l ((2 : Int), (false, true)))
 (.t (a1_ == 5)
 (.l ((3 : Int), (false, true)))
 (.t (a1_ == 6)
 (.l ((1 : Int), (true, true)))
 (.t (a1_ == 7)
 (.l ((0 : Int), (true, true)))
 (.t (a1_ == 10)
 (.t (a1_ == 10)
 (.l ((0 : Int), (false, true)))
 (.l ((0 : Int), (false, false))))
 (.t (a1_ == 11)
 (.l ((0 : Int), (false, true)))
 (.l ((0 : Int), (false, false)))))))))
 (.t (a1_ == 4)
 (.l ((2 : Int), (false, true)))
 (.t (a1_ == 5)
 (.l ((3 : Int), (false, true)))
 (.t (a1_ == 6)
 (.l ((1 : Int), (true, true)))
 (.t (a1_ == 7)
 (.l ((0 : Int), (true, true)))
 (.t (a1_ == 10)
 (.t (a1_ == 10)
 (.l ((0 : Int), (false, true)))
 (.l ((0 : Int), (false, false))))
 (.t (a1_ == 11)
 (.l ((0 : Int), (false, true)))
 (.l ((0 : Int), (false, false)))))))))))
 (.t (a1_ == 2)
 (.t (a1_ == 2)
 (.l ((1 : Int), (false, true)))
 (.t (a1_ == 3)
 (.t (a1_ == 3)
 (.l ((2 : Int), (false, true)))
 (.t (a1_ == 5)
 (.l ((3 : Int), (false, true)))
 (.t (a1_ == 6)
 (.l ((1 : Int), (true, true)))
 (.t (a1_ == 7)
 (.l ((0 : Int), (true, true)))
 (.t (a1_ == 10)
 (.t (a1_ == 10)
 (.l ((0 : Int), (false, true)))
 (.l ((0 : Int), (false, false))))
 (.t (a1_ == 11)
 (.l ((0 : Int), (false, true)))
 (.l ((0 : Int), (false, false)))))))))
 (.t (a1_ == 4)
 (.l ((2 : Int), (false, true)))
 (.t (a1_ == 5)
 (.l ((3 : Int), (false, true)))
 (.t (a1_ == 6)
 (.l ((1 : Int), (true, true)))
 (.t (a1_ == 7)
 (.l ((0 : Int), (true, true)))
 (.t (a1_ == 10)
 (.t (a1_ == 10)
 (.l ((0 : Int), (false, true)))
 (.l ((0 : Int), (false, false))))
 (.t (a1_ == 11)
 (.l ((0 : Int), (false, true)))
 (.l ((0 : Int), (false, false)))))))))))
 (.t (a1_ == 8)
 (.t (a1_ == 8)
 (.l ((1 : Int), (false, true)))
 (.t (a1_ == 3)
 (.t (a1_ == 3)
 (.l ((2 : Int), (false, true)))
 (.t (a1_ == 5)
 (.l ((3 : Int), (false, true)))
 (.t (a1_ == 6)
 (.l ((1 : Int), (true, true)))
 (.t (a1_ == 7)
 (.l ((0 : Int), (true, true)))
 (.t (a1_ == 10)
 (.t (a1_ == 10)
 (.l ((0 : Int), (false, true)))
 (.l ((0 : Int), (false, false))))
 (.t (a1_ == 11)
 (.l ((0 : Int), (false, true)))
 (.l ((0 : Int), (false, false)))))))))
 (.t (a1_ == 4)
 (.l ((2 : Int), (false, true)))
 (.t (a1_ == 5)
 (.l ((3 : Int), (false, true)))
 (.t (a1_ == 6)
 (.l ((1 : Int), (true, true)))
 (.t (a1_ == 7)
 (.l ((0 : Int), (true, true)))
 (.t (a1_ == 10)
 (.t (a1_ == 10)
 (.l ((0 : Int), (false, true)))
 (.l ((0 : Int), (false, false))))
 (.t (a1_ == 11)
 (.l ((0 : Int), (false, true)))
 (.l ((0 : Int), (false, false)))))))))))
 (.t (a1_ == 9)
 (.l ((1 : Int), (false, true)))
 (.t (a1_ == 3)
 (.t (a1_ == 3)
 (.l ((2 : Int), (false, true)))
 (.t (a1_ == 5)
 (.l ((3 : Int), (false, true)))
 (.t (a1_ == 6)
 (.l ((1 : Int), (true, true)))
 (.t (a1_ == 7)
 (.l ((0 : Int), (true, true)))
 (.t (a1_ == 10)
 (.t (a1_ == 10)
 (.l ((0 : Int), (false, true)))
 (.l ((0 : Int), (false, false))))
 (.t (a1_ == 11)
 (.l ((0 : Int), (false, true)))
 (.l ((0 : Int), (false, false)))))))))
 (.t (a1_ == 4)
 (.l ((2 : Int), (false, true)))
 (.t (a1_ == 5)
 (.l ((3 : Int), (false, true)))
 (.t (a1_ == 6)
 (.l ((1 : Int), (true, true)))
 (.t (a1_ == 7)
 (.l ((0 : Int), (true, true)))
 (.t (a1_ == 10)
 (.t (a1_ == 10)
 (.l ((0 : Int), (false, true)))
 (.l ((0 : Int), (false, false))))
 (.t (a1_ == 11)
 (.l ((0 : Int), (false, true)))
 (.l ((0 : Int), (false, false)))))))))))))
noncomputable def waa (a1_ : Int) : Option (Int × (Bool × (Bool))) := (wuo a1_).ev
noncomputable def wajg : RetK := yr [.tmp 2, .tmp 3, .tmp 4] (yj [.dat yi, .dat .bool, .dat .bool])
noncomputable def wup : FD := yd Zg [] [] (Int × (Bool × (Bool))) (fun x => waa x.1.1) (fun r => ([.dat yi r.1, .dat .bool r.2.1, .dat .bool r.2.2], []))
noncomputable def T_zi (a1_ : Int) (a2_ : Int) (a3_ : Int) (a4_ : Int) (a5_ : Y1) : Tr (Bool) :=
 .c (Int × (Bool × (Bool))) (waa a1_) fun r1_ =>
 .t r1_.2.2
 (.t (decide (0 < r1_.1))
 (.t (decide (1 < r1_.1))
 (.t (decide (2 < r1_.1))
 (.t r1_.2.1
 (.l true)
 (.l (((length a5_ : Nat) : Int) == (0 : Int))))
 (.t (a4_ == 0)
 (.t r1_.2.1
 (.l true)
 (.l (((length a5_ : Nat) : Int) == (0 : Int))))
 (.l false)))
 (.t (a3_ == 0)
 (.t (decide (2 < r1_.1))
 (.t r1_.2.1
 (.l true)
 (.l (((length a5_ : Nat) : Int) == (0 : Int))))
 (.t (a4_ == 0)
 (.t r1_.2.1
 (.l true)
 (.l (((length a5_ : Nat) : Int) == (0 : Int))))
 (.l false)))
 (.l false)))
 (.t (a2_ == 0)
 (.t (decide (1 < r1_.1))
 (.t (decide (2 < r1_.1))
 (.t r1_.2.1
 (.l true)
 (.l (((length a5_ : Nat) : Int) == (0 : Int))))
 (.t (a4_ == 0)
 (.t r1_.2.1
 (.l true)
 (.l (((length a5_ : Nat) : Int) == (0 : Int))))
 (.l false)))
 (.t (a3_ == 0)
 (.t (decide (2 < r1_.1))
 (.t r1_.2.1
 (.l true)
 (.l (((length a5_ : Nat) : Int) == (0 : Int))))
 (.t (a4_ == 0)
 (.t r1_.2.1
 (.l true)
 (.l (((length a5_ : Nat) : Int) == (0 : Int))))
 (.l false)))
 (.l false)))
 (.l false)))
 (.l false)
noncomputable def F_zi (a1_ : Int) (a2_ : Int) (a3_ : Int) (a4_ : Int) (a5_ : Y1) : Option (Bool) := (T_zi a1_ a2_ a3_ a4_ a5_).ev
noncomputable def K_zi : RetK := yr [.tmp 2] Zl
noncomputable def D_zi : FD := yd (yj [.agg Zr]) [] [] Bool (fun x => F_zi x.1.1.1 x.1.1.2.1 x.1.1.2.2.1 x.1.1.2.2.2.1 x.1.1.2.2.2.2.1) (fun r => ([.dat .bool r], []))
noncomputable def wck (k : Y1 × Int) (v : Int × Int) : Tr (Yq ⊕ (Int)) :=
 .t (decide (v.2 < k.2))
 (.g (inR v.2 (length k.1)) <|
 .g (decide ((0 : Int) ≤ (getD k.1 (toNat v.2) 0))) <|
 .l (.inl ((wrap .u64 (BitVec.toNat ((BitVec.ofInt Zb v.1) ||| (BitVec.ofInt Zb (wrap .u64 ((1 : Int) * 2 ^ (min (toNat (getD k.1 (toNat v.2) 0)) Zb))))))), (wrap .i64 (v.2 + 1)))))
 (.l (.inr v.1))
noncomputable def wmr (k : Y1 × Int) (v : Int × Int) : Option (Int) := iter (fun v => (wck k v).ev) v
noncomputable def whu : LD := ⟨(yh [3, 6, 7, 8] (yj [.dat (.int .u64), .dat y1, .dat yi, .dat yi])), [(0, (yh [3] Zah))], (yh [] .nil), Y1 × (Int), Int × (Int), Int, fun k v => ((v.1, (k.1, (k.2, (v.2, ())))), ()), fun t => (t.1.2.1, t.1.2.2.1), fun t => (t.1.1, t.1.2.2.2.1), wck, fun _ r => .l (.exit 0 (mkSt ((ys [3] Zah)) ((r, ()), ())))⟩
noncomputable def T_zz (a1_ : Y1) : Tr (Int) :=
 .c (Int) (wmr (a1_, ((length a1_ : Nat) : Int)) ((0 : Int), (0 : Int))) fun r6_ =>
 .l r6_
noncomputable def F_zz (a1_ : Y1) : Option (Int) := (T_zz a1_).ev
noncomputable def K_zz : RetK := yr [.tmp 2] Zah
noncomputable def D_zz : FD := yd (yj [.dat y1]) [] [] Int (fun x => F_zz x.1.1) (fun r => ([.dat (.int .u64) r], []))
noncomputable def E_zz : Env := envOf []
noncomputable def O_zz : List (Nat × LD) := [(0, whu)]
noncomputable def C_zz : Code := (f141.body).getD .skip
noncomputable def T_zh (a1_ : Int) (a2_ : Y1) (_a3_ : List Y1) (_a4_ : Y1) (_a5_ : Int) : Tr (Bool) :=
 .c (Bool) (wby a1_ (0 : Int) (wrap .i64 (((length a2_ : Nat) : Int) - 1))) fun r1_ =>
 .l r1_
noncomputable def wju (a1_ : Int) (a2_ : Y1) (a3_ : List Y1) (a4_ : Y1) (a5_ : Int) : Option (Bool) := (T_zh a1_ a2_ a3_ a4_ a5_).ev
noncomputable def K_zh : RetK := yr [.tmp 3] Zl
noncomputable def D_zh : FD := yd (yj [.dat yi, .ptr Zj]) [] [] Bool (fun x => wju x.1.1 x.1.2.1.1 x.1.2.1.2.1 x.1.2.1.2.2.1 x.1.2.1.2.2.2.1) (fun r => ([.dat .bool r], []))
noncomputable def wabm (a1_ : Int) (a2_ : Int) : Tr (Bool) :=
 .g (decide (0 ≤ a2_)) <|
 .l ((wrap .u64 (BitVec.toNat ((BitVec.ofInt Zb (Int.fdiv a1_ (2 ^ (min (toNat a2_) Zb)))) &&& (BitVec.ofInt Zb (1 : Int))))) == (1 : Int))
noncomputable def wap (a1_ : Int) (a2_ : Int) : Option (Bool) := (wabm a1_ a2_).ev
noncomputable def wajp : RetK := yr [.tmp 4] Zl
noncomputable def whv : FD := yd (yj [.dat (.int .u64), .dat yi]) [] [] Bool (fun x => wap x.1.1 x.1.2.1) (fun r => ([.dat .bool r], []))
noncomputable def whw (k : Int) (v : Int × Y1) : Tr (Yab ⊕ Y1) :=
 .g (decide (0 ≤ v.1)) <|
 .t (decide ((0 : Int) < (Int.fdiv k (2 ^ (min (toNat v.1) Zb)))))
 (.c (Bool) (wap k v.1) fun r4_ =>
 .t r4_
 (.g (decide ((length v.2 + length ([v.1] : Y1)) * 8 ≤ 140737488355328)) <|
 .l (.inl ((wrap .i64 (v.1 + 1)), (v.2 ++ ([v.1] : Y1)))))
 (.l (.inl ((wrap .i64 (v.1 + 1)), v.2))))
 (.l (.inr v.2))
noncomputable def wuq (k : Int) (v : Int × Y1) : Option Y1 := iter (fun v => (whw k v).ev) v
noncomputable def weu : LD := ⟨{ acts := [], S := { slots := [0, 3, 4], sh := (yj [.dat (.int .u64), .arr 5, .dat yi]), obs := [(5, .arr 3 yi)] } }, [(0, { acts := [], S := { slots := [3], sh := (yj [.arr 5]), obs := [(5, .arr 3 yi)] } })], (yh [] .nil), Int, Int × Y1, Y1, fun k v => ((k, ((), (v.1, ()))), (v.2, ())), fun t => t.1.1, fun t => (t.1.2.2.1, t.2.1), whw, fun _ r => .l (.exit 0 (mkSt ({ slots := [3], sh := (yj [.arr 5]), obs := [(5, .arr 3 yi)] }) (((), ()), (r, ()))))⟩
noncomputable def wabn (a1_ : Int) : Tr Y1 :=
 .c Y1 (wuq a1_ ((0 : Int), ([] : Y1))) fun r6_ =>
 .l r6_
noncomputable def wbn (a1_ : Int) : Option Y1 := (wabn a1_).ev
noncomputable def wajq : RetK := { acts := [.ren 5 0], res := [.tmp 2], sh := Zan, obs := [Zal], pins := [] }
noncomputable def wgc : FD := yd Zah [] [] Y1 (fun x => wbn x.1.1) (fun r => ([.arr 0], [(0, .arr 3 yi r)]))
noncomputable def wur : Env := envOf [(143, whv)]
noncomputable def wus : List (Nat × LD) := [(0, weu)]
noncomputable def wut : Code := (f144.body).getD .skip
noncomputable def wuu (a1_ : Y1) (a2_ : Int) (a3_ : Int) : Tr Y1 :=
 .c (Int) (F_zz a1_) fun r1_ =>
 .g (decide (0 ≤ a2_)) <|
 .g (decide (0 ≤ a3_)) <|
 .c Y1 (wbn (wrap .u64 (BitVec.toNat ((BitVec.ofInt Zb (wrap .u64 (BitVec.toNat ((BitVec.ofInt Zb r1_) &&& ~~~(BitVec.ofInt Zb (wrap .u64 ((1 : Int) * 2 ^ (min (toNat a2_) Zb)))))))) ||| (BitVec.ofInt Zb (wrap .u64 ((1 : Int) * 2 ^ (min (toNat a3_) Zb)))))))) fun r2_ =>
 .l r2_
noncomputable def whx (a1_ : Y1) (a2_ : Int) (a3_ : Int) : Option Y1 := (wuu a1_ a2_ a3_).ev
noncomputable def wajr : RetK := { acts := [.ren 960 0], res := [.tmp 6], sh := Zan, obs := [Zal], pins := [] }
noncomputable def wlu : FD := yd Zae [] [] Y1 (fun x => whx x.1.1 x.1.2.1 x.1.2.2.1) (fun r => ([.arr 0], [(0, .arr 3 yi r)]))
noncomputable def wlv (a2_ : Int) (a3_ : Int) (a1_ : Y1) : Option (List Int) := delF a2_ a3_ a1_
noncomputable def wabo : FD := fdDelI
noncomputable def wabp (a2_ : Int) (a3_ : Int) (a1_ : List Y1) : Option (List (List Int)) := delF a2_ a3_ a1_
noncomputable def wabq : FD := fdDelR
noncomputable def T_zl (a1_ : Y1) (_a2_ : List Y1) (a3_ : Y1) : Tr (Bool) :=
 .t (decide ((0 : Int) < ((length a3_ : Nat) : Int)))
 (.c (Bool) (whr a3_ ((length a1_ : Nat) : Int)) fun r1_ =>
 .l r1_)
 (.l false)
noncomputable def F_zl (a1_ : Y1) (a2_ : List Y1) (a3_ : Y1) : Option (Bool) := (T_zl a1_ a2_ a3_).ev
noncomputable def K_zl : RetK := yr [.tmp 4] Zl
noncomputable def D_zl : FD := yd (yj [.agg Ze, .dat y1]) [] [] Bool (fun x => F_zl x.1.1.1 x.1.1.2.1 x.1.2.1) (fun r => ([.dat .bool r], []))
noncomputable def wuv (a1_ : Y1) (a2_ : List Y1) (a3_ : Y1) : Tr (Bool) :=
 .c (Bool) (F_zu a1_ a2_) fun r1_ =>
 .t r1_
 (.c (Bool) (F_zl a1_ a2_ a3_) fun r2_ =>
 .l r2_)
 (.l false)
noncomputable def wlw (a1_ : Y1) (a2_ : List Y1) (a3_ : Y1) : Option (Bool) := (wuv a1_ a2_ a3_).ev
noncomputable def wajv : RetK := yr [.tmp 4] Zl
noncomputable def wuw : FD := yd (yj [.agg Ze, .dat y1]) [] [] Bool (fun x => wlw x.1.1.1 x.1.1.2.1 x.1.2.1) (fun r => ([.dat .bool r], []))
noncomputable def wcl (k : Y1 × (Int × Yv)) (v : Int × Int) : Tr (Yq ⊕ (Int)) :=
 .t (decide (v.2 < k.2.1))
 (.g (inR v.2 (length k.1)) <|
 .g (inR (getD k.1 (toNat v.2) 0) (length k.2.2.1)) <|
 .l (.inl ((wrap .i64 (v.1 + (getD k.2.2.1 (toNat (getD k.1 (toNat v.2) 0)) (0 : Int)))), (wrap .i64 (v.2 + 1)))))
 (.l (.inr v.1))
noncomputable def wms (k : Y1 × (Int × Yv)) (v : Int × Int) : Option (Int) := iter (fun v => (wcl k v).ev) v
noncomputable def whz : LD := ⟨{ acts := [], S := { slots := [2, 5, 8, 9, 10], sh := (yj [.box 2 0, .dat yi, .dat y1, .dat yi, .dat yi]), obs := [(2, .cells Ze)] } }, [(0, (yh [5] Zg))], (yh [] .nil), Y1 × (Int × Yv), Int × (Int), Int, fun k v => (((), (v.1, (k.1, (k.2.1, (v.2, ()))))), ((k.2.2.1, (k.2.2.2, ())), ())), fun t => (t.1.2.2.1, (t.1.2.2.2.1, (t.2.1.1, t.2.1.2.1))), fun t => (t.1.2.1, t.1.2.2.2.2.1), wcl, fun _ r => .l (.exit 0 (mkSt ((ys [5] Zg)) ((r, ()), ())))⟩
noncomputable def T_zo (a1_ : Y1) (a2_ : List Y1) (a3_ : Y1) : Tr (Int) :=
 .c (Int) (wms (a3_, (((length a3_ : Nat) : Int), (a1_, a2_))) ((0 : Int), (0 : Int))) fun r8_ =>
 .l r8_
noncomputable def F_zo (a1_ : Y1) (a2_ : List Y1) (a3_ : Y1) : Option (Int) := (T_zo a1_ a2_ a3_).ev
noncomputable def K_zo : RetK := yr [.tmp 4] Zg
noncomputable def D_zo : FD := yd (yj [.agg Ze, .dat y1]) [] [] Int (fun x => F_zo x.1.1.1 x.1.1.2.1 x.1.2.1) (fun r => ([.dat yi r], []))
noncomputable def E_zo : Env := envOf []
noncomputable def O_zo : List (Nat × LD) := [(0, whz)]
noncomputable def C_zo : Code := (f187.body).getD .skip
noncomputable def wcm (k : Int × (Y1 × (Int × Yv))) (v : Int × Int) : Tr (Yq ⊕ (Int)) :=
 .t (decide (v.2 < k.2.2.1))
 (.g (inR v.2 (length k.2.1)) <|
 .g (inR k.1 (length k.2.2.2.2)) <|
 .g (inR (getD k.2.1 (toNat v.2) 0) (length (getD k.2.2.2.2 (toNat k.1) ([] : Y1)))) <|
 .g (inR k.1 (length k.2.2.2.2)) <|
 .g (inR v.1 (length (getD k.2.2.2.2 (toNat k.1) ([] : Y1)))) <|
 .t (decide ((getD (getD k.2.2.2.2 (toNat k.1) ([] : Y1)) (toNat (getD k.2.1 (toNat v.2) 0)) (0 : Int)) < (getD (getD k.2.2.2.2 (toNat k.1) ([] : Y1)) (toNat v.1) (0 : Int))))
 (.l (.inl ((getD k.2.1 (toNat v.2) 0), (wrap .i64 (v.2 + 1)))))
 (.l (.inl (v.1, (wrap .i64 (v.2 + 1))))))
 (.l (.inr v.1))
noncomputable def wmt (k : Int × (Y1 × (Int × Yv))) (v : Int × Int) : Option (Int) := iter (fun v => (wcm k v).ev) v
noncomputable def wia : LD := ⟨{ acts := [], S := { slots := [1, 3, 7, 13, 14, 15], sh := (yj [.dat yi, .box 3 0, .dat yi, .dat y1, .dat yi, .dat yi]), obs := [(3, .cells Ze)] } }, [(0, (yh [7] Zg))], (yh [] .nil), Int × (Y1 × (Int × Yv)), Int × (Int), Int, fun k v => ((k.1, ((), (v.1, (k.2.1, (k.2.2.1, (v.2, ())))))), ((k.2.2.2.1, (k.2.2.2.2, ())), ())), fun t => (t.1.1, (t.1.2.2.2.1, (t.1.2.2.2.2.1, (t.2.1.1, t.2.1.2.1)))), fun t => (t.1.2.2.1, t.1.2.2.2.2.2.1), wcm, fun _ r => .l (.exit 0 (mkSt ((ys [7] Zg)) ((r, ()), ())))⟩
noncomputable def T_zq (a1_ : Y1) (a2_ : List Y1) (a3_ : Int) (a4_ : Y1) : Tr (Int) :=
 .g (inR 0 (length a4_)) <|
 .c (Int) (wmt (a3_, (a4_, (((length a4_ : Nat) : Int), (a1_, a2_)))) ((getD a4_ (toNat 0) 0), (0 : Int))) fun r9_ =>
 .l r9_
noncomputable def F_zq (a1_ : Y1) (a2_ : List Y1) (a3_ : Int) (a4_ : Y1) : Option (Int) := (T_zq a1_ a2_ a3_ a4_).ev
noncomputable def K_zq : RetK := yr [.tmp 6] Zg
noncomputable def D_zq : FD := yd (yj [.agg Ze, .dat yi, .dat y1]) [] [] Int (fun x => F_zq x.1.1.1 x.1.1.2.1 x.1.2.1 x.1.2.2.1) (fun r => ([.dat yi r], []))
noncomputable def E_zq : Env := envOf []
noncomputable def O_zq : List (Nat × LD) := [(0, wia)]
noncomputable def C_zq : Code := (f274.body).getD .skip
noncomputable def wcn (k : Y1 × (Int × Yv)) (v : Int × Y1) : Tr (Yab ⊕ Y1) :=
 .t (decide (v.1 < k.2.1))
 (.c (Int) (F_zq k.2.2.1 k.2.2.2 v.1 k.1) fun r7_ =>
 .g (decide ((length v.2 + length ([r7_] : Y1)) * 8 ≤ 140737488355328)) <|
 .l (.inl ((wrap .i64 (v.1 + 1)), (v.2 ++ ([r7_] : Y1)))))
 (.l (.inr v.2))
noncomputable def wmu (k : Y1 × (Int × Yv)) (v : Int × Y1) : Option Y1 := iter (fun v => (wcn k v).ev) v
noncomputable def wib : LD := ⟨{ acts := [], S := { slots := [1, 2, 5, 10, 11], sh := (yj [.dat y1, .box 2 0, .arr 7, .dat yi, .dat yi]), obs := [(2, .cells Ze), (7, .arr 3 yi)] } }, [(0, { acts := [], S := { slots := [5], sh := (yj [.arr 7]), obs := [(7, .arr 3 yi)] } })], (yh [] .nil), Y1 × (Int × Yv), Int × Y1, Y1, fun k v => ((k.1, ((), ((), (k.2.1, (v.1, ()))))), ((k.2.2.1, (k.2.2.2, ())), (v.2, ()))), fun t => (t.1.1, (t.1.2.2.2.1, (t.2.1.1, t.2.1.2.1))), fun t => (t.1.2.2.2.2.1, t.2.2.1), wcn, fun _ r => .l (.exit 0 (mkSt ({ slots := [5], sh := (yj [.arr 7]), obs := [(7, .arr 3 yi)] }) (((), ()), (r, ()))))⟩
noncomputable def T_zp (a1_ : Y1) (a2_ : List Y1) (a3_ : Y1) : Tr Y1 :=
 .c Y1 (wmu (a3_, (((length a2_ : Nat) : Int), (a1_, a2_))) ((0 : Int), ([] : Y1))) fun r9_ =>
 .l r9_
noncomputable def F_zp (a1_ : Y1) (a2_ : List Y1) (a3_ : Y1) : Option Y1 := (T_zp a1_ a2_ a3_).ev
noncomputable def K_zp : RetK := { acts := [.ren 7 0], res := [.tmp 4], sh := Zan, obs := [Zal], pins := [] }
noncomputable def D_zp : FD := yd (yj [.agg Ze, .dat y1]) [] [] Y1 (fun x => F_zp x.1.1.1 x.1.1.2.1 x.1.2.1) (fun r => ([.arr 0], [(0, .arr 3 yi r)]))
noncomputable def E_zp : Env := envOf [(274, D_zq)]
noncomputable def O_zp : List (Nat × LD) := [(0, wib)]
noncomputable def C_zp : Code := (f261.body).getD .skip
noncomputable def wco (k : Int × (Y1 × (Y2 × Y1))) (v : Int × Y1) : Tr (Yab ⊕ Y1) :=
 .t (decide (v.1 < k.1))
 (.g (inR v.1 (length k.2.2.2)) <|
 .g (decide ((toNat v.1) < length k.2.2.2)) <|
 .g (inR v.1 (length k.2.2.1)) <|
 .g (inR (getD k.2.2.2 (toNat v.1) 0) (length (getD k.2.2.1 (toNat v.1) ([] : Y1)))) <|
 .g (decide ((length v.2 + length ([(getD (getD k.2.2.1 (toNat v.1) ([] : Y1)) (toNat (getD k.2.2.2 (toNat v.1) 0)) (0 : Int))] : Y1)) * 8 ≤ 140737488355328)) <|
 .l (.inl ((wrap .i64 (v.1 + 1)), (v.2 ++ ([(getD (getD k.2.2.1 (toNat v.1) ([] : Y1)) (toNat (getD k.2.2.2 (toNat v.1) 0)) (0 : Int))] : Y1)))))
 (.l (.inr v.2))
noncomputable def wmv (k : Int × (Y1 × (Y2 × Y1))) (v : Int × Y1) : Option Y1 := iter (fun v => (wco k v).ev) v
noncomputable def wic : LD := ⟨{ acts := [], S := { slots := [2, 5, 11, 12, 13], sh := (yj [.box 2 0, .arr 8, .arr 704, .dat yi, .dat yi]), obs := [(2, .cells Ze), (8, .arr 3 yi), (704, .arr 3 yi)] } }, [(0, { acts := [], S := { slots := [5], sh := (yj [.arr 8]), obs := [(8, .arr 3 yi)] } })], (yh [] .nil), Int × (Y1 × (Y2 × Y1)), Int × Y1, Y1, fun k v => (((), ((), ((), (k.1, (v.1, ()))))), ((k.2.1, (k.2.2.1, ())), (v.2, (k.2.2.2, ())))), fun t => (t.1.2.2.2.1, (t.2.1.1, (t.2.1.2.1, t.2.2.2.1))), fun t => (t.1.2.2.2.2.1, t.2.2.1), wco, fun _ r => .l (.exit 0 (mkSt ({ slots := [5], sh := (yj [.arr 8]), obs := [(8, .arr 3 yi)] }) (((), ()), (r, ()))))⟩
noncomputable def T_zm (a1_ : Y1) (a2_ : List Y1) (a3_ : Y1) : Tr Y1 :=
 .c Y1 (F_zp a1_ a2_ a3_) fun r1_ =>
 .c Y1 (wmv (((length r1_ : Nat) : Int), (a1_, (a2_, r1_))) ((0 : Int), ([] : Y1))) fun r9_ =>
 .l r9_
noncomputable def F_zm (a1_ : Y1) (a2_ : List Y1) (a3_ : Y1) : Option Y1 := (T_zm a1_ a2_ a3_).ev
noncomputable def K_zm : RetK := { acts := [.ren 8 0], res := [.tmp 4], sh := Zan, obs := [Zal], pins := [] }
noncomputable def D_zm : FD := yd (yj [.agg Ze, .dat y1]) [] [] Y1 (fun x => F_zm x.1.1.1 x.1.1.2.1 x.1.2.1) (fun r => ([.arr 0], [(0, .arr 3 yi r)]))
noncomputable def E_zm : Env := envOf [(261, D_zp)]
noncomputable def O_zm : List (Nat × LD) := [(0, wic)]
noncomputable def C_zm : Code := (f237.body).getD .skip
noncomputable def wbo (k : Y1 × Int) (v : Int × Int) : Tr (Yq ⊕ (Int)) :=
 .t (decide (v.2 < k.2))
 (.g (inR v.2 (length k.1)) <|
 .l (.inl ((wrap .i64 (v.1 + (getD k.1 (toNat v.2) 0))), (wrap .i64 (v.2 + 1)))))
 (.l (.inr v.1))
noncomputable def wie (k : Y1 × Int) (v : Int × Int) : Option (Int) := iter (fun v => (wbo k v).ev) v
noncomputable def wev : LD := ⟨(yh [3, 6, 7, 8] (yj [.dat yi, .dat y1, .dat yi, .dat yi])), [(0, (yh [3] Zg))], (yh [] .nil), Y1 × (Int), Int × (Int), Int, fun k v => ((v.1, (k.1, (k.2, (v.2, ())))), ()), fun t => (t.1.2.1, t.1.2.2.1), fun t => (t.1.1, t.1.2.2.2.1), wbo, fun _ r => .l (.exit 0 (mkSt ((ys [3] Zg)) ((r, ()), ())))⟩
noncomputable def wux (a1_ : Y1) : Tr (Int) :=
 .c (Int) (wie (a1_, ((length a1_ : Nat) : Int)) ((0 : Int), (0 : Int))) fun r6_ =>
 .l r6_
noncomputable def wlx (a1_ : Y1) : Option (Int) := (wux a1_).ev
noncomputable def wakr : RetK := yr [.tmp 2] Zg
noncomputable def wuy : FD := yd (yj [.dat y1]) [] [] Int (fun x => wlx x.1.1) (fun r => ([.dat yi r], []))
noncomputable def wuz : Env := envOf []
noncomputable def wva : List (Nat × LD) := [(0, wev)]
noncomputable def wvb : Code := (f236.body).getD .skip
noncomputable def T_zr (a1_ : Y1) (a2_ : List Y1) (a3_ : Y1) : Tr (Int) :=
 .c Y1 (F_zm a1_ a2_ a3_) fun r1_ =>
 .c (Int) (wlx r1_) fun r2_ =>
 .l r2_
noncomputable def F_zr (a1_ : Y1) (a2_ : List Y1) (a3_ : Y1) : Option (Int) := (T_zr a1_ a2_ a3_).ev
noncomputable def K_zr : RetK := yr [.tmp 4] Zg
noncomputable def D_zr : FD := yd (yj [.agg Ze, .dat y1]) [] [] Int (fun x => F_zr x.1.1.1 x.1.1.2.1 x.1.2.1) (fun r => ([.dat yi r], []))
noncomputable def T_zs (a1_ : Y1) (a2_ : List Y1) (a3_ : Y1) : Tr (Int) :=
 .c (Int) (F_zo a1_ a2_ a3_) fun r1_ =>
 .c (Int) (F_zr a1_ a2_ a3_) fun r2_ =>
 .l (wrap .i64 (r1_ + r2_))
noncomputable def wif (a1_ : Y1) (a2_ : List Y1) (a3_ : Y1) : Option (Int) := (T_zs a1_ a2_ a3_).ev
noncomputable def K_zs : RetK := yr [.tmp 4] Zg
noncomputable def D_zs : FD := yd (yj [.agg Ze, .dat y1]) [] [] Int (fun x => wif x.1.1.1 x.1.1.2.1 x.1.2.1) (fun r => ([.dat yi r], []))
noncomputable def T_zk (a1_ : Y1) (a2_ : Y1) (a3_ : List Y1) (a4_ : Int) : Tr ((Y1 × Yi) ⊕ (Y1 × Yi)) :=
 .c (Int) (wif a2_ a3_ a1_) fun r1_ =>
 .t (decide (r1_ < a4_))
 (.g (decide (0 < length a1_)) <|
 .l (.inr (a1_, (a2_, (a3_, a4_)))))
 (.l (.inl (a1_, (a2_, (a3_, a4_)))))
noncomputable def F_zk (a1_ : Y1) (a2_ : Y1) (a3_ : List Y1) (a4_ : Int) : Option ((Y1 × Yi) ⊕ (Y1 × Yi)) := (T_zk a1_ a2_ a3_ a4_).ev
noncomputable def K_zk : RetK := { acts := [], res := [.tmp 5], sh := Zl, obs := [(64, .arr 3 yi), (65, .cells Ze), (66, .cells Zg), (67, .cells (yj [.nilsl]))], pins := [(0, 0, 64), (1, 0, 65), (2, 0, 66), (3, 0, 67)] }
noncomputable def wabs : RetK := { acts := [], res := [.tmp 5], sh := Zl, obs := [(64, .arr 3 yi), (65, .cells Ze), (66, .cells Zg), (67, .cells (yj [.arr 64]))], pins := [(0, 0, 64), (1, 0, 65), (2, 0, 66), (3, 0, 67)] }
noncomputable def D_zk : FD := { (yd (yj [.arr 64, .box 65 0, .box 66 0, .box 67 0]) [(64, .arr 3 yi), (65, .cells Ze), (66, .cells Zg), (67, .cells (yj [.nilsl]))] [.arg 0, .arg 1, .arg 2, .arg 3] ((Y1 × Yi) ⊕ (Y1 × Yi)) (fun x => F_zk x.2.1 x.2.2.1.1 x.2.2.1.2.1 x.2.2.2.1.1) (fun r => match r with | .inl a => ([.dat .bool true], [(64, .arr 3 yi a.1), (65, .cells [.dat y1 a.2.1, .dat y2 a.2.2.1]), (66, .cells [.dat yi a.2.2.2]), (67, .cells [.nilsl])]) | .inr b => ([.dat .bool false], [(64, .arr 3 yi b.1), (65, .cells [.dat y1 b.2.1, .dat y2 b.2.2.1]), (66, .cells [.dat yi b.2.2.2]), (67, .cells [.arr 64])]))) with
 sp := fun r => .s (Y1 × Yi) (Y1 × Yi) r (fun a => .l ([.dat .bool true], [(64, .arr 3 yi a.1), (65, .cells [.dat y1 a.2.1, .dat y2 a.2.2.1]), (66, .cells [.dat yi a.2.2.2]), (67, .cells [.nilsl])])) (fun b => .l ([.dat .bool false], [(64, .arr 3 yi b.1), (65, .cells [.dat y1 b.2.1, .dat y2 b.2.2.1]), (66, .cells [.dat yi b.2.2.2]), (67, .cells [.arr 64])]))
 spok := fun r => by cases r <;> rfl }
noncomputable def wcp (k : Y1 × (Int × Yq)) (v : Int × Yi) : Tr ((Int × Yi) ⊕ (Yi ⊕ Ym)) :=
 .t (decide (v.1 < k.2.2.2))
 (.c (Bool) (wap k.2.1 v.1) fun r10_ =>
 .t (!r10_)
 (.g (decide (0 ≤ v.1)) <|
 .c Y1 (wbn (wrap .u64 (BitVec.toNat ((BitVec.ofInt Zb k.2.1) ||| (BitVec.ofInt Zb (wrap .u64 ((1 : Int) * 2 ^ (min (toNat v.1) Zb)))))))) fun r11_ =>
 .c ((Y1 × Yi) ⊕ (Y1 × Yi)) (F_zk r11_ v.2.1 v.2.2.1 v.2.2.2) fun r12_ =>
 .s (Y1 × Yi) (Y1 × Yi) r12_
 (fun r13_ => .l (.inl ((wrap .i64 (v.1 + 1)), (r13_.2.1, (r13_.2.2.1, r13_.2.2.2)))))
 (fun r14_ => .l (.inr (.inr (r14_.2.1, (r14_.2.2.1, (r14_.2.2.2, r14_.1)))))))
 (.l (.inl ((wrap .i64 (v.1 + 1)), (v.2.1, (v.2.2.1, v.2.2.2))))))
 (.l (.inr (.inl (v.2.1, (v.2.2.1, v.2.2.2)))))
noncomputable def wmw (k : Y1 × (Int × Yq)) (v : Int × Yi) : Option (Yi ⊕ Ym) := iter (fun v => (wcp k v).ev) v
noncomputable def wig : LD := ⟨{ acts := [], S := { slots := [1, 2, 6, 7, 19, 20], sh := (yj [.dat y1, .fn 226 Zn, .dat (.int .u64), .dat yi, .dat yi, .dat yi]), obs := [Zz, Zaa, Zw] } }, [(0, { acts := [], S := { slots := [1, 2, 6, 7], sh := (yj [.dat y1, .fn 226 Zn, .dat (.int .u64), .dat yi]), obs := [Zz, Zaa, Zw] } })], { acts := [], S := { slots := [2], sh := (yj [.fn 226 Zn]), obs := [Zz, Zaa, (66, .cells (yj [.arr 2112])), (2112, .arr 3 yi)] } }, Y1 × (Int × Yq), Int × Yi, Yi ⊕ Ym, fun k v => ((k.1, (((), ((), ((), ()))), (k.2.1, (k.2.2.1, (k.2.2.2, (v.1, ())))))), ((v.2.1, (v.2.2.1, ())), ((v.2.2.2, ()), (((), ()), ())))), fun t => (t.1.1, (t.1.2.2.1, (t.1.2.2.2.1, t.1.2.2.2.2.1))), fun t => (t.1.2.2.2.2.2.1, (t.2.1.1, (t.2.1.2.1, t.2.2.1.1))), wcp, fun k r => .s Yi Ym r (fun a => .l (.exit 0 (mkSt ({ slots := [1, 2, 6, 7], sh := (yj [.dat y1, .fn 226 Zn, .dat (.int .u64), .dat yi]), obs := [Zz, Zaa, Zw] }) ((k.1, (((), ((), ((), ()))), (k.2.1, (k.2.2.1, ())))), ((a.1, (a.2.1, ())), ((a.2.2, ()), (((), ()), ()))))))) (fun b => .l (.ret (mkSt ({ slots := [2], sh := (yj [.fn 226 Zn]), obs := [Zz, Zaa, (66, .cells (yj [.arr 2112])), (2112, .arr 3 yi)] }) ((((), ((), ((), ()))), ()), ((b.1, (b.2.1, ())), ((b.2.2.1, ()), (((), ()), (b.2.2.2, ()))))))))⟩
noncomputable def wcq (k : Y1 × (Int × (Int × (Y1 × Int)))) (v : Int × Yi) : Tr ((Int × Yi) ⊕ (Yi ⊕ Ym)) :=
 .t (decide (v.1 < k.2.2.2.2))
 (.g (inR v.1 (length k.2.2.2.1)) <|
 .t (decide ((1 : Int) < ((length k.1 : Nat) : Int)))
 (.g (decide ((0 : Int) ≤ (getD k.2.2.2.1 (toNat v.1) 0))) <|
 .c Y1 (wbn (wrap .u64 (BitVec.toNat ((BitVec.ofInt Zb k.2.1) &&& ~~~(BitVec.ofInt Zb (wrap .u64 ((1 : Int) * 2 ^ (min (toNat (getD k.2.2.2.1 (toNat v.1) 0)) Zb)))))))) fun r37_ =>
 .c ((Y1 × Yi) ⊕ (Y1 × Yi)) (F_zk r37_ v.2.1 v.2.2.1 v.2.2.2) fun r38_ =>
 .s (Y1 × Yi) (Y1 × Yi) r38_
 (fun r39_ => .l (.inl ((wrap .i64 (v.1 + 1)), (r39_.2.1, (r39_.2.2.1, r39_.2.2.2)))))
 (fun r40_ => .l (.inr (.inr (r40_.2.1, (r40_.2.2.1, (r40_.2.2.2, r40_.1)))))))
 (.l (.inl ((wrap .i64 (v.1 + 1)), (v.2.1, (v.2.2.1, v.2.2.2))))))
 (.l (.inr (.inl (v.2.1, (v.2.2.1, v.2.2.2)))))
noncomputable def wmx (k : Y1 × (Int × (Int × (Y1 × Int)))) (v : Int × Yi) : Option (Yi ⊕ Ym) := iter (fun v => (wcq k v).ev) v
noncomputable def wih : LD := ⟨{ acts := [], S := { slots := [1, 2, 6, 7, 38, 39, 40], sh := (yj [.dat y1, .fn 226 Zn, .dat (.int .u64), .dat yi, .dat y1, .dat yi, .dat yi]), obs := [Zz, Zaa, Zw] } }, [(2, { acts := [], S := { slots := [1, 2, 6, 7], sh := (yj [.dat y1, .fn 226 Zn, .dat (.int .u64), .dat yi]), obs := [Zz, Zaa, Zw] } })], { acts := [], S := { slots := [2], sh := (yj [.fn 226 Zn]), obs := [Zz, Zaa, (66, .cells (yj [.arr 3392])), (3392, .arr 3 yi)] } }, Y1 × (Int × (Int × (Y1 × Int))), Int × Yi, Yi ⊕ Ym, fun k v => ((k.1, (((), ((), ((), ()))), (k.2.1, (k.2.2.1, (k.2.2.2.1, (k.2.2.2.2, (v.1, ()))))))), ((v.2.1, (v.2.2.1, ())), ((v.2.2.2, ()), (((), ()), ())))), fun t => (t.1.1, (t.1.2.2.1, (t.1.2.2.2.1, (t.1.2.2.2.2.1, t.1.2.2.2.2.2.1)))), fun t => (t.1.2.2.2.2.2.2.1, (t.2.1.1, (t.2.1.2.1, t.2.2.1.1))), wcq, fun k r => .s Yi Ym r (fun a => .l (.exit 2 (mkSt ({ slots := [1, 2, 6, 7], sh := (yj [.dat y1, .fn 226 Zn, .dat (.int .u64), .dat yi]), obs := [Zz, Zaa, Zw] }) ((k.1, (((), ((), ((), ()))), (k.2.1, (k.2.2.1, ())))), ((a.1, (a.2.1, ())), ((a.2.2, ()), (((), ()), ()))))))) (fun b => .l (.ret (mkSt ({ slots := [2], sh := (yj [.fn 226 Zn]), obs := [Zz, Zaa, (66, .cells (yj [.arr 3392])), (3392, .arr 3 yi)] }) ((((), ((), ((), ()))), ()), ((b.1, (b.2.1, ())), ((b.2.2.1, ()), (((), ()), (b.2.2.2, ()))))))))⟩
noncomputable def wcr (k : Y1 × (Int × (Int × (Int × (Y1 × (Int × Yq)))))) (v : Int × Yi) : Tr ((Int × Yi) ⊕ (Yi ⊕ Ym)) :=
 .t (decide (v.1 < k.2.2.2.2.2.2.2))
 (.c (Bool) (wap k.2.1 v.1) fun r75_ =>
 .t (!r75_)
 (.c Y1 (whx k.1 k.2.2.2.1 v.1) fun r76_ =>
 .c ((Y1 × Yi) ⊕ (Y1 × Yi)) (F_zk r76_ v.2.1 v.2.2.1 v.2.2.2) fun r77_ =>
 .s (Y1 × Yi) (Y1 × Yi) r77_
 (fun r78_ => .l (.inl ((wrap .i64 (v.1 + 1)), (r78_.2.1, (r78_.2.2.1, r78_.2.2.2)))))
 (fun r79_ => .l (.inr (.inr (r79_.2.1, (r79_.2.2.1, (r79_.2.2.2, r79_.1)))))))
 (.l (.inl ((wrap .i64 (v.1 + 1)), (v.2.1, (v.2.2.1, v.2.2.2))))))
 (.l (.inr (.inl (v.2.1, (v.2.2.1, v.2.2.2)))))
noncomputable def wmy (k : Y1 × (Int × (Int × (Int × (Y1 × (Int × Yq)))))) (v : Int × Yi) : Option (Yi ⊕ Ym) := iter (fun v => (wcr k v).ev) v
noncomputable def wii : LD := ⟨{ acts := [], S := { slots := [1, 2, 6, 7, 12, 58, 59, 60, 64, 65], sh := (yj [.dat y1, .fn 226 Zn, .dat (.int .u64), .dat yi, .dat yi, .dat y1, .dat yi, .dat yi, .dat yi, .dat yi]), obs := [Zz, Zaa, Zw] } }, [(6, { acts := [], S := { slots := [1, 2, 6, 7, 58, 59, 60], sh := (yj [.dat y1, .fn 226 Zn, .dat (.int .u64), .dat yi, .dat y1, .dat yi, .dat yi]), obs := [Zz, Zaa, Zw] } })], { acts := [], S := { slots := [2], sh := (yj [.fn 226 Zn]), obs := [Zz, Zaa, (66, .cells (yj [.arr 4928])), (4928, .arr 3 yi)] } }, Y1 × (Int × (Int × (Int × (Y1 × (Int × Yq))))), Int × Yi, Yi ⊕ Ym, fun k v => ((k.1, (((), ((), ((), ()))), (k.2.1, (k.2.2.1, (k.2.2.2.1, (k.2.2.2.2.1, (k.2.2.2.2.2.1, (k.2.2.2.2.2.2.1, (k.2.2.2.2.2.2.2, (v.1, ())))))))))), ((v.2.1, (v.2.2.1, ())), ((v.2.2.2, ()), (((), ()), ())))), fun t => (t.1.1, (t.1.2.2.1, (t.1.2.2.2.1, (t.1.2.2.2.2.1, (t.1.2.2.2.2.2.1, (t.1.2.2.2.2.2.2.1, (t.1.2.2.2.2.2.2.2.1, t.1.2.2.2.2.2.2.2.2.1))))))), fun t => (t.1.2.2.2.2.2.2.2.2.2.1, (t.2.1.1, (t.2.1.2.1, t.2.2.1.1))), wcr, fun k r => .s Yi Ym r (fun a => .l (.exit 6 (mkSt ({ slots := [1, 2, 6, 7, 58, 59, 60], sh := (yj [.dat y1, .fn 226 Zn, .dat (.int .u64), .dat yi, .dat y1, .dat yi, .dat yi]), obs := [Zz, Zaa, Zw] }) ((k.1, (((), ((), ((), ()))), (k.2.1, (k.2.2.1, (k.2.2.2.2.1, (k.2.2.2.2.2.1, (k.2.2.2.2.2.2.1, ()))))))), ((a.1, (a.2.1, ())), ((a.2.2, ()), (((), ()), ()))))))) (fun b => .l (.ret (mkSt ({ slots := [2], sh := (yj [.fn 226 Zn]), obs := [Zz, Zaa, (66, .cells (yj [.arr 4928])), (4928, .arr 3 yi)] }) ((((), ((), ((), ()))), ()), ((b.1, (b.2.1, ())), ((b.2.2.1, ()), (((), ()), (b.2.2.2, ()))))))))⟩
noncomputable def wcs (k : Y1 × (Int × (Int × (Y1 × Int)))) (v : Int × Yi) : Tr ((Int × Yi) ⊕ (Yi ⊕ Ym)) :=
 .t (decide (v.1 < k.2.2.2.2))
 (.g (inR v.1 (length k.2.2.2.1)) <|
 .c (Yi ⊕ Ym) (wmy (k.1, (k.2.1, (k.2.2.1, ((getD k.2.2.2.1 (toNat v.1) 0), (k.2.2.2.1, (k.2.2.2.2, (v.1, k.2.2.1))))))) ((0 : Int), (v.2.1, (v.2.2.1, v.2.2.2)))) fun r93_ =>
 .s Yi Ym r93_
 (fun r94_ => .l (.inl ((wrap .i64 (v.1 + 1)), (r94_.1, (r94_.2.1, r94_.2.2)))))
 (fun r95_ => .l (.inr (.inr (r95_.1, (r95_.2.1, (r95_.2.2.1, r95_.2.2.2)))))))
 (.l (.inr (.inl (v.2.1, (v.2.2.1, v.2.2.2)))))
noncomputable def wmz (k : Y1 × (Int × (Int × (Y1 × Int)))) (v : Int × Yi) : Option (Yi ⊕ Ym) := iter (fun v => (wcs k v).ev) v
noncomputable def wij : LD := ⟨{ acts := [], S := { slots := [1, 2, 6, 7, 58, 59, 60], sh := (yj [.dat y1, .fn 226 Zn, .dat (.int .u64), .dat yi, .dat y1, .dat yi, .dat yi]), obs := [Zz, Zaa, Zw] } }, [(4, { acts := [], S := { slots := [2], sh := (yj [.fn 226 Zn]), obs := [Zz, Zaa, Zw] } })], { acts := [], S := { slots := [2], sh := (yj [.fn 226 Zn]), obs := [Zz, Zaa, (66, .cells (yj [.arr 4928])), (4928, .arr 3 yi)] } }, Y1 × (Int × (Int × (Y1 × Int))), Int × Yi, Yi ⊕ Ym, fun k v => ((k.1, (((), ((), ((), ()))), (k.2.1, (k.2.2.1, (k.2.2.2.1, (k.2.2.2.2, (v.1, ()))))))), ((v.2.1, (v.2.2.1, ())), ((v.2.2.2, ()), (((), ()), ())))), fun t => (t.1.1, (t.1.2.2.1, (t.1.2.2.2.1, (t.1.2.2.2.2.1, t.1.2.2.2.2.2.1)))), fun t => (t.1.2.2.2.2.2.2.1, (t.2.1.1, (t.2.1.2.1, t.2.2.1.1))), wcs, fun _ r => .s Yi Ym r (fun a => .l (.exit 4 (mkSt ({ slots := [2], sh := (yj [.fn 226 Zn]), obs := [Zz, Zaa, Zw] }) ((((), ((), ((), ()))), ()), ((a.1, (a.2.1, ())), ((a.2.2, ()), (((), ()), ()))))))) (fun b => .l (.ret (mkSt ({ slots := [2], sh := (yj [.fn 226 Zn]), obs := [Zz, Zaa, (66, .cells (yj [.arr 4928])), (4928, .arr 3 yi)] }) ((((), ((), ((), ()))), ()), ((b.1, (b.2.1, ())), ((b.2.2.1, ()), (((), ()), (b.2.2.2, ()))))))))⟩
noncomputable def T_zn (a1_ : Y1) (_a2_ : List Y1) (a3_ : Y1) (a4_ : Y1) (a5_ : List Y1) (a6_ : Int) : Tr (Yi ⊕ Ym) :=
 .c (Int) (F_zz a3_) fun r1_ =>
 .c (Yi ⊕ Ym) (wmw (a3_, (r1_, (((length a1_ : Nat) : Int), ((length a1_ : Nat) : Int)))) ((0 : Int), (a4_, (a5_, a6_)))) fun r25_ =>
 .s Yi Ym r25_
 (fun r26_ => .c (Yi ⊕ Ym) (wmx (a3_, (r1_, (((length a1_ : Nat) : Int), (a3_, ((length a3_ : Nat) : Int))))) ((0 : Int), (r26_.1, (r26_.2.1, r26_.2.2)))) fun r51_ =>
 .s Yi Ym r51_
 (fun r52_ => .c (Yi ⊕ Ym) (wmz (a3_, (r1_, (((length a1_ : Nat) : Int), (a3_, ((length a3_ : Nat) : Int))))) ((0 : Int), (r52_.1, (r52_.2.1, r52_.2.2)))) fun r103_ =>
 .s Yi Ym r103_
 (fun r104_ => .l (.inl (r104_.1, (r104_.2.1, r104_.2.2))))
 (fun r105_ => .l (.inr (r105_.1, (r105_.2.1, (r105_.2.2.1, r105_.2.2.2))))))
 (fun r53_ => .l (.inr (r53_.1, (r53_.2.1, (r53_.2.2.1, r53_.2.2.2))))))
 (fun r27_ => .l (.inr (r27_.1, (r27_.2.1, (r27_.2.2.1, r27_.2.2.2)))))
noncomputable def F_zn (a1_ : Y1) (a2_ : List Y1) (a3_ : Y1) (a4_ : Y1) (a5_ : List Y1) (a6_ : Int) : Option (Yi ⊕ Ym) := (T_zn a1_ a2_ a3_ a4_ a5_ a6_).ev
noncomputable def K_zn : RetK := { acts := [], res := [], sh := .nil, obs := [Zz, Zaa, Zw], pins := [(2, 1, 64), (2, 2, 65), (2, 3, 66)] }
noncomputable def wabt : RetK := { acts := [.ren 4928 0, .ren 3392 0, .ren 2112 0], res := [], sh := .nil, obs := [Zz, Zaa, (66, .cells Zan), Zal], pins := [(2, 1, 64), (2, 2, 65), (2, 3, 66)] }
noncomputable def D_zn : FD := { (yd (yj [.agg Ze, .dat y1, .fn 226 Zn]) [Zz, Zaa, Zw] [.cap 2 0, .cap 2 1, .cap 2 2] (Yi ⊕ Ym) (fun x => F_zn x.1.1.1 x.1.1.2.1 x.1.2.1 x.2.1.1 x.2.1.2.1 x.2.2.1.1) (fun r => match r with | .inl a => ([], [(64, .cells [.dat y1 a.1, .dat y2 a.2.1]), (65, .cells [.dat yi a.2.2]), (66, .cells [.nilsl])]) | .inr b => ([], [(64, .cells [.dat y1 b.1, .dat y2 b.2.1]), (65, .cells [.dat yi b.2.2.1]), (66, .cells [.arr 0]), (0, .arr 3 yi b.2.2.2)]))) with
 sp := fun r => .s Yi Ym r (fun a => .l ([], [(64, .cells [.dat y1 a.1, .dat y2 a.2.1]), (65, .cells [.dat yi a.2.2]), (66, .cells [.nilsl])])) (fun b => .l ([], [(64, .cells [.dat y1 b.1, .dat y2 b.2.1]), (65, .cells [.dat yi b.2.2.1]), (66, .cells [.arr 0]), (0, .arr 3 yi b.2.2.2)]))
 spok := fun r => by cases r <;> rfl }
noncomputable def E_zn : Env := envOf [(141, D_zz), (143, whv), (144, wgc), (226, D_zk), (145, wlu)]
noncomputable def O_zn : List (Nat × LD) := [(0, wig), (2, wih), (6, wii), (4, wij)]
noncomputable def C_zn : Code := (f225.body).getD .skip
end Go.Proofs.YtnagpmhaddfgmaaGreat
