import Derived.Test.YtnagpmhaddfgmaaGreatC4
import Derived.Test.YtnagpmhaddfgmaaGreatProg
namespace Go.Proofs.YtnagpmhaddfgmaaGreat
open Go.Proofs.Tryz
open List (length getD set)
open Int (toNat)
open IntKind (wrap)
noncomputable def wlx (k : Y1 × (Y1 × (Y1 × Int))) (v : Int) : Tr ((Int) ⊕ ((Unit) ⊕ (Int))) :=
 .t (decide (v < k.2.2.2))
 (.g (inR v (length k.2.2.1)) <|
 .t (decide (((length k.2.1 : Nat) : Int) ≤ v))
 (.l (.inr (.inr (1 : Int))))
 (.g (inR v (length k.2.1)) <|
 .c (Int) (F_za (getD k.2.2.1 (toNat v) 0) (getD k.2.1 (toNat v) 0)) fun r6_ =>
 .t (r6_ != (0 : Int))
 (.l (.inr (.inr r6_)))
 (.l (.inl (wrap .i64 (v + 1))))))
 (.l (.inr (.inl ())))
noncomputable def wzs (k : Y1 × (Y1 × (Y1 × Int))) (v : Int) : Option ((Unit) ⊕ (Int)) := iter (fun v => (wlx k v).ev) v
noncomputable def wgy : LD := ⟨(yh [0, 1, 9, 10, 11] (yj [.dat y1, .dat y1, .dat y1, .dat yi, .dat yi])), [(0, (yh [0, 1] (yj [.dat y1, .dat y1])))], (yh [4] Zm), Y1 × (Y1 × (Y1 × Int)), Int, (Unit) ⊕ (Int), fun k v => ((k.1, (k.2.1, (k.2.2.1, (k.2.2.2, (v, ()))))), ()), fun t => (t.1.1, (t.1.2.1, (t.1.2.2.1, t.1.2.2.2.1))), fun t => t.1.2.2.2.2.1, wlx, fun k r => .s (Unit) (Int) r (fun _ => .l (.exit 0 (mkSt ((ys [0, 1] (yj [.dat y1, .dat y1]))) ((k.1, (k.2.1, ())), ())))) (fun b => .l (.ret (mkSt ((ys [4] Zm)) ((b, ()), ()))))⟩
noncomputable def wafl (a1_ : Y1) (a2_ : Y1) : Tr (Int) :=
 .c ((Unit) ⊕ (Int)) (wzs (a1_, (a2_, (a1_, ((length a1_ : Nat) : Int)))) (0 : Int)) fun r10_ =>
 .s (Unit) (Int) r10_
 (fun _ => .t (decide (((length a1_ : Nat) : Int) < ((length a2_ : Nat) : Int)))
 (.l (-1 : Int))
 (.l (0 : Int)))
 (fun r12_ => .l r12_)
noncomputable def wafm (a1_ : Y1) (a2_ : Y1) : Option (Int) := (wafl a1_ a2_).ev
noncomputable def waot : RetK := yr [.tmp 4] Zm
noncomputable def wzt : FD := yd (yj [.dat y1, .dat y1]) [] [] Int (fun x => wafm x.1.1 x.1.2.1) (fun r => ([.dat yi r], []))
noncomputable def wzu : Env := envOf [(182, D_za)]
noncomputable def wzv : List (Nat × LD) := [(0, wgy)]
noncomputable def wzw : Code := (f235.body).getD .skip
noncomputable def wpz (k : Int × (Y1 × Int)) (v : Int) : Tr ((Int) ⊕ ((Unit) ⊕ (Int))) :=
 .t (decide (v < k.2.2))
 (.g (inR v (length k.2.1)) <|
 .t ((getD k.2.1 (toNat v) 0) != k.1)
 (.l (.inr (.inr (getD k.2.1 (toNat v) 0))))
 (.l (.inl (wrap .i64 (v + 1)))))
 (.l (.inr (.inl ())))
noncomputable def wafn (k : Int × (Y1 × Int)) (v : Int) : Option ((Unit) ⊕ (Int)) := iter (fun v => (wpz k v).ev) v
noncomputable def wly : LD := ⟨(yh [3, 6, 7, 8] (yj [.dat yi, .dat y1, .dat yi, .dat yi])), [(0, (yh [3] Zm))], (yh [2] Zm), Int × (Y1 × Int), Int, (Unit) ⊕ (Int), fun k v => ((k.1, (k.2.1, (k.2.2, (v, ())))), ()), fun t => (t.1.1, (t.1.2.1, t.1.2.2.1)), fun t => t.1.2.2.2.1, wpz, fun k r => .s (Unit) (Int) r (fun _ => .l (.exit 0 (mkSt ((ys [3] Zm)) ((k.1, ()), ())))) (fun b => .l (.ret (mkSt ((ys [2] Zm)) ((b, ()), ()))))⟩
noncomputable def T_zb (a1_ : Y1) : Tr (Int) :=
 .c ((Unit) ⊕ (Int)) (wafn ((0 : Int), (a1_, ((length a1_ : Nat) : Int))) (0 : Int)) fun r7_ =>
 .s (Unit) (Int) r7_
 (fun _ => .l (0 : Int))
 (fun r9_ => .l r9_)
noncomputable def F_zb (a1_ : Y1) : Option (Int) := (T_zb a1_).ev
noncomputable def K_zb : RetK := yr [.tmp 2] Zm
noncomputable def D_zb : FD := yd (yj [.dat y1]) [] [] Int (fun x => F_zb x.1.1) (fun r => ([.dat yi r], []))
noncomputable def E_zb : Env := envOf []
noncomputable def O_zb : List (Nat × LD) := [(0, wly)]
noncomputable def C_zb : Code := (f181.body).getD .skip
noncomputable def wafo (a1_ : Y1) (a2_ : Y1) : Tr (Int) :=
 .c (Int) (F_za ((length a1_ : Nat) : Int) ((length a2_ : Nat) : Int)) fun r1_ =>
 .c (Int) (wafm a1_ a2_) fun r2_ =>
 .c (Int) (F_zb ([r1_, r2_] : Y1)) fun r3_ =>
 .l r3_
noncomputable def wafp (a1_ : Y1) (a2_ : Y1) : Option (Int) := (wafo a1_ a2_).ev
noncomputable def waoy : RetK := yr [.tmp 4] Zm
noncomputable def wzx : FD := yd (yj [.dat y1, .dat y1]) [] [] Int (fun x => wafp x.1.1 x.1.2.1) (fun r => ([.dat yi r], []))
noncomputable def wlz (k : Int) (v : Int × Y2) : Tr ((Int × Y2) ⊕ Y2) :=
 .g (decide (0 ≤ k)) <|
 .t (decide (v.1 < (wrap .u64 ((1 : Int) * 2 ^ (min (toNat k) Zd)))))
 (.c Y1 (wcl v.1) fun r4_ =>
 .g (decide ((length v.2 + 1) * 24 ≤ 140737488355328)) <|
 .l (.inl ((wrap .u64 (v.1 + 1)), (set (v.2 ++ [[]]) (length v.2) r4_))))
 (.l (.inr v.2))
noncomputable def wzy (k : Int) (v : Int × Y2) : Option Y2 := iter (fun v => (wlz k v).ev) v
noncomputable def wgz : LD := ⟨{ acts := [], S := { slots := [0, 3, 4], sh := (yj [.dat yi, .arr 5, .dat (.int .u64)]), obs := [(5, .rows 24 3 yi)] } }, [(0, { acts := [], S := { slots := [3], sh := (yj [.arr 5]), obs := [(5, .rows 24 3 yi)] } })], (yh [] .nil), Int, Int × Y2, List Y1, fun k v => ((k, ((), (v.1, ()))), (v.2, ())), fun t => t.1.1, fun t => (t.1.2.2.1, t.2.1), wlz, fun _ r => .l (.exit 0 (mkSt ({ slots := [3], sh := (yj [.arr 5]), obs := [(5, .rows 24 3 yi)] }) (((), ()), (r, ()))))⟩
noncomputable def wafq (a1_ : Int) : Tr Ye :=
 .c Y2 (wzy a1_ ((1 : Int), ([] : List Y1))) fun r6_ =>
 .c Ye (wafk (fun h7_ => Option.bind (wafp h7_.1 h7_.2.1) fun y8_ => some y8_) ((List.range (length r6_)), r6_)) fun r9_ =>
 .l r9_
noncomputable def wma (a1_ : Int) : Option Ye := (wafq a1_).ev
noncomputable def waoz : RetK := { acts := [.ren 5 0], res := [.tmp 2], sh := (yj [.arr 0]), obs := [(0, .perm 24 3 yi)], pins := [] }
noncomputable def wzz : FD := yd Zm [] [] Ye (fun x => wma x.1.1) (fun r => ([.arr 0], [(0, .perm false 24 3 yi r.1 r.2)]))
noncomputable def waaa : Nat → Nat → List Nat := fun r i => match look [(1, [(0, [1000000])]), (6, [(1, [80000017])])] r with
 | some l => (look l i).getD []
 | none => []
noncomputable def waab : Env := envOf [(144, wib), (184, wpd), (184, wpd), (185, wzx)]
noncomputable def waac : List (Nat × LD) := [(0, wgz)]
noncomputable def waad : Code := (f91.body).getD .skip
noncomputable def wbd (k : ((HL [y1] → Option (Int))) × (Int × Ye)) (v : (Nat) × Int) : Tr (((Nat) × Int) ⊕ (Nat)) :=
 .t (decide (v.2 < k.2.1))
 (.g (inR v.2 (length k.2.2.1)) <|
 .g (decide ((toNat v.2) < length k.2.2.1) && decide ((getD k.2.2.1 (toNat v.2) 0) < length k.2.2.2)) <|
 .c (Int) (k.1 ((getD k.2.2.2 (getD k.2.2.1 (toNat v.2) 0) ([] : Y1)), ())) fun r6_ =>
 .c (Int) (k.1 ((getD k.2.2.2 v.1 ([] : Y1)), ())) fun r7_ =>
 .t (decide (r6_ < r7_))
 (.l (.inl ((getD k.2.2.1 (toNat v.2) 0), (wrap .i64 (v.2 + 1)))))
 (.l (.inl (v.1, (wrap .i64 (v.2 + 1))))))
 (.l (.inr v.1))
noncomputable def wmb (k : ((HL [y1] → Option (Int))) × (Int × Ye)) (v : (Nat) × Int) : Option (Nat) := iter (fun v => (wbd k v).ev) v
noncomputable def wha : LD := ⟨{ acts := [], S := { slots := [0, 1, 5, 11, 12, 13], sh := (yj [.arr 64, .clo [y1] yi, .row 64, .arr 64, .dat yi, .dat yi]), obs := [Zu] } }, [(0, { acts := [], S := { slots := [0, 5], sh := (yj [.arr 64, .row 64]), obs := [Zu] } })], (yh [] .nil), ((HL [y1] → Option (Int))) × (Int × Ye), (Nat) × (Int), Nat, fun k v => (((), (k.1, (v.1, ((), (k.2.1, (v.2, ())))))), (k.2.2, ())), fun t => (t.1.2.1, (t.1.2.2.2.2.1, t.2.1)), fun t => (t.1.2.2.1, t.1.2.2.2.2.2.1), wbd, fun k r => .l (.exit 0 (mkSt ({ slots := [0, 5], sh := (yj [.arr 64, .row 64]), obs := [Zu] }) (((), (r, ())), (k.2.2, ()))))⟩
noncomputable def waae (a2_ : (HL [y1] → Option (Int))) (a1_ : (List Nat) × Y2) : Tr Y1 :=
 .g (inR 0 (length a1_.1)) <|
 .g (decide ((toNat 0) < length a1_.1) && decide ((getD a1_.1 (toNat 0) 0) < length a1_.2)) <|
 .c (Nat) (wmb (a2_, (((length a1_.1 : Nat) : Int), a1_)) ((getD a1_.1 (toNat 0) 0), (0 : Int))) fun r10_ =>
 .l (getD a1_.2 r10_ ([] : Y1))
noncomputable def wpe (a2_ : (HL [y1] → Option (Int))) (a1_ : (List Nat) × Y2) : Option Y1 := (waae a2_ a1_).ev
noncomputable def wapa : RetK := { acts := [.pull 4 800000, .ren 800000 0], res := [.tmp 4], sh := (yj [.arr 0]), obs := [Zbe], pins := [], gone := [64] }
noncomputable def wpf : FD := yd (yj [.arr 64, .clo [y1] yi]) [Zu] [.arg 0] Y1 (fun x => wpe x.1.2.1 x.2.1) (fun r => ([.arr 0], [(0, .arr 3 yi r), (64, .spent)]))
noncomputable def waaf : Env := envOf []
noncomputable def waag : List (Nat × LD) := [(0, wha)]
noncomputable def waah : Code := (f94.body).getD .skip
noncomputable def T_zf (a1_ : Y1) (a2_ : List Y1) : Tr Ybc :=
 .c (Bool) (wsz a1_ a2_) fun r1_ =>
 .t (!r1_)
 (.l (false, ([] : Y1)))
 (.c Ye (wma ((length a1_ : Nat) : Int)) fun r2_ =>
 .c Y1 (wpe (fun h3_ => Option.bind (wie a1_ a2_ h3_.1) fun y4_ => some y4_) r2_) fun r5_ =>
 .l (true, r5_))
noncomputable def F_zf (a1_ : Y1) (a2_ : List Y1) : Option Ybc := (T_zf a1_ a2_).ev
noncomputable def K_zf : RetK := { acts := [.own 2 0 3 yi, .ren 832 0], res := [.tmp 2, .tmp 3], sh := (yj [.arr 0, .dat .bool]), obs := [Zbe], pins := [] }
noncomputable def D_zf : FD := yd (yj [.agg Zf]) [] [] Ybc (fun x => F_zf x.1.1.1 x.1.1.2.1) (fun r => ([.arr 0, .dat .bool r.1], [(0, .arr 3 yi r.2)]))
noncomputable def S_zi (k : Bool × (Y1 × (Int × Yat))) (v : Int × Y2) : Tr ((Int × Y2) ⊕ Y2) :=
 .t (decide (v.1 < k.2.2.1))
 (.g (inR v.1 (length k.2.1)) <|
 .g (inR v.1 (length v.2)) <|
 .g (decide ((toNat v.1) < length v.2)) <|
 .g (decide ((length (getD v.2 (toNat v.1) ([] : Y1)) + length ([(getD k.2.1 (toNat v.1) 0)] : Y1)) * 8 ≤ 140737488355328)) <|
 .g (inR v.1 (length v.2)) <|
 .g (decide ((toNat v.1) < length v.2) && decide ((toNat v.1) = (toNat v.1))) <|
 .l (.inl ((wrap .i64 (v.1 + 1)), (set v.2 (toNat v.1) ((getD v.2 (toNat v.1) ([] : Y1)) ++ ([(getD k.2.1 (toNat v.1) 0)] : Y1))))))
 (.l (.inr v.2))
noncomputable def L_zi (k : Bool × (Y1 × (Int × Yat))) (v : Int × Y2) : Option Y2 := iter (fun v => (S_zi k v).ev) v
noncomputable def wafs : LD := ⟨{ acts := [.ownB 4 0 901340 3 yi, .ownB 4 2 901342 3 yi], S := { slots := [4, 6, 9, 165, 166, 167], sh := (yj [.box 4 0, .box 6 0, .dat .bool, .dat y1, .dat yi, .dat yi]), obs := [Zah, (6, .cells (yj [.arr 1859, .arr 1860, .arr 1861, .dat yi])), (901340, .arr 3 yi), (901342, .arr 3 yi), (1859, .arr 3 yi), (1860, .rows 24 3 yi), (1861, .arr 3 yi)] } }, [(1, { acts := [], S := { slots := [4, 6, 9], sh := (yj [.box 4 0, .box 6 0, .dat .bool]), obs := [Zah, (6, .cells (yj [.arr 1859, .arr 1860, .arr 1861, .dat yi])), (901340, .arr 3 yi), (901342, .arr 3 yi), (1859, .arr 3 yi), (1860, .rows 24 3 yi), (1861, .arr 3 yi)] } })], (yh [] .nil), Bool × (Y1 × (Int × Yat)), Int × Y2, List Y1, fun k v => (((), ((), (k.1, (k.2.1, (k.2.2.1, (v.1, ())))))), (((), ((), ((), (k.2.2.2.1, ())))), (((), ((), ((), (k.2.2.2.2.1, ())))), (k.2.2.2.2.2.1, (k.2.2.2.2.2.2.1, (k.2.2.2.2.2.2.2.1, (v.2, (k.2.2.2.2.2.2.2.2, ())))))))), fun t => (t.1.2.2.1, (t.1.2.2.2.1, (t.1.2.2.2.2.1, (t.2.1.2.2.2.1, (t.2.2.1.2.2.2.1, (t.2.2.2.1, (t.2.2.2.2.1, (t.2.2.2.2.2.1, t.2.2.2.2.2.2.2.1)))))))), fun t => (t.1.2.2.2.2.2.1, t.2.2.2.2.2.2.1), S_zi, fun k r => .l (.exit 1 (mkSt ({ slots := [4, 6, 9], sh := (yj [.box 4 0, .box 6 0, .dat .bool]), obs := [Zah, (6, .cells (yj [.arr 1859, .arr 1860, .arr 1861, .dat yi])), (901340, .arr 3 yi), (901342, .arr 3 yi), (1859, .arr 3 yi), (1860, .rows 24 3 yi), (1861, .arr 3 yi)] }) (((), ((), (k.1, ()))), (((), ((), ((), (k.2.2.2.1, ())))), (((), ((), ((), (k.2.2.2.2.1, ())))), (k.2.2.2.2.2.1, (k.2.2.2.2.2.2.1, (k.2.2.2.2.2.2.2.1, (r, (k.2.2.2.2.2.2.2.2, ()))))))))))⟩
noncomputable def wdz (k : Int × (Bool × Yae)) (v : Int × Y2) : Tr ((Int × Y2) ⊕ Y2) :=
 .t (decide (v.1 < k.2.2.1))
 (.g (inR v.1 (length v.2)) <|
 .g (decide ((toNat v.1) < length v.2)) <|
 .c (List Int) (wos k.1 (wrap .i64 (k.1 + 1)) (getD v.2 (toNat v.1) ([] : Y1))) fun r65_ =>
 .g (inR v.1 (length v.2)) <|
 .g (decide ((toNat v.1) < length v.2) && decide ((toNat v.1) = (toNat v.1))) <|
 .l (.inl ((wrap .i64 (v.1 + 1)), (set v.2 (toNat v.1) r65_))))
 (.l (.inr v.2))
noncomputable def wqa (k : Int × (Bool × Yae)) (v : Int × Y2) : Option Y2 := iter (fun v => (wdz k v).ev) v
noncomputable def wmc : LD := ⟨{ acts := [], S := { slots := [4, 6, 7, 9, 222, 223, 224], sh := (yj [.box 4 0, .box 6 0, .dat yi, .dat .bool, .arr 1860, .dat yi, .dat yi]), obs := [Zba, Zai, (1860, .rows 24 3 yi), (13888, .arr 3 yi), (1861, .arr 3 yi)] } }, [(3, { acts := [], S := { slots := [4, 6, 7, 9], sh := (yj [.box 4 0, .box 6 0, .dat yi, .dat .bool]), obs := [Zba, Zai, (13888, .arr 3 yi), (1860, .rows 24 3 yi), (1861, .arr 3 yi)] } })], (yh [] .nil), Int × (Bool × Yae), Int × Y2, List Y1, fun k v => (((), ((), (k.1, (k.2.1, ((), (k.2.2.1, (v.1, ()))))))), (((), ((), ((), (k.2.2.2.1, ())))), (((), ((), ((), (k.2.2.2.2.1, ())))), (v.2, (k.2.2.2.2.2.1, (k.2.2.2.2.2.2, ())))))), fun t => (t.1.2.2.1, (t.1.2.2.2.1, (t.1.2.2.2.2.2.1, (t.2.1.2.2.2.1, (t.2.2.1.2.2.2.1, (t.2.2.2.2.1, t.2.2.2.2.2.1)))))), fun t => (t.1.2.2.2.2.2.2.1, t.2.2.2.1), wdz, fun k r => .l (.exit 3 (mkSt ({ slots := [4, 6, 7, 9], sh := (yj [.box 4 0, .box 6 0, .dat yi, .dat .bool]), obs := [Zba, Zai, (13888, .arr 3 yi), (1860, .rows 24 3 yi), (1861, .arr 3 yi)] }) (((), ((), (k.1, (k.2.1, ())))), (((), ((), ((), (k.2.2.2.1, ())))), (((), ((), ((), (k.2.2.2.2.1, ())))), (k.2.2.2.2.2.1, (r, (k.2.2.2.2.2.2, ()))))))))⟩
noncomputable def wcu (k : Int × (Bool × (Int × (Int × Yax)))) (v : Int × Y1) : Tr ((Int × Y1) ⊕ Y1) :=
 .t (decide (v.1 < k.2.2.1))
 (.g (inR v.1 (length v.2)) <|
 .g (decide ((toNat v.1) < length v.2)) <|
 .t (decide (k.1 < (getD v.2 (toNat v.1) 0)))
 (.g (inR v.1 (length v.2)) <|
 .g (decide ((toNat v.1) < length v.2)) <|
 .g (inR v.1 (length v.2)) <|
 .g (decide ((toNat v.1) < length v.2)) <|
 .l (.inl ((wrap .i64 (v.1 + 1)), (set v.2 (toNat v.1) (wrap .i64 ((getD v.2 (toNat v.1) 0) - 1))))))
 (.l (.inl ((wrap .i64 (v.1 + 1)), v.2))))
 (.l (.inr v.2))
noncomputable def wqb (k : Int × (Bool × (Int × (Int × Yax)))) (v : Int × Y1) : Option Y1 := iter (fun v => (wcu k v).ev) v
noncomputable def wmd : LD := ⟨{ acts := [], S := { slots := [4, 6, 7, 9, 241, 242, 243], sh := (yj [.box 4 0, .box 6 0, .dat yi, .dat .bool, .arr 1861, .dat yi, .dat yi]), obs := [Zba, Zai, (1861, .arr 3 yi), (13888, .arr 3 yi), (1860, .rows 24 3 yi)] } }, [(5, { acts := [], S := { slots := [4, 6, 9], sh := (yj [.box 4 0, .box 6 0, .dat .bool]), obs := [Zba, Zai, (13888, .arr 3 yi), (1860, .rows 24 3 yi), (1861, .arr 3 yi)] } })], (yh [] .nil), Int × (Bool × (Int × (Int × Yax))), Int × Y1, Y1, fun k v => (((), ((), (k.1, (k.2.1, ((), (k.2.2.1, (v.1, ()))))))), (((), ((), ((), (k.2.2.2.1, ())))), (((), ((), ((), (k.2.2.2.2.1, ())))), (v.2, (k.2.2.2.2.2.1, (k.2.2.2.2.2.2, ())))))), fun t => (t.1.2.2.1, (t.1.2.2.2.1, (t.1.2.2.2.2.2.1, (t.2.1.2.2.2.1, (t.2.2.1.2.2.2.1, (t.2.2.2.2.1, t.2.2.2.2.2.1)))))), fun t => (t.1.2.2.2.2.2.2.1, t.2.2.2.1), wcu, fun k r => .l (.exit 5 (mkSt ({ slots := [4, 6, 9], sh := (yj [.box 4 0, .box 6 0, .dat .bool]), obs := [Zba, Zai, (13888, .arr 3 yi), (1860, .rows 24 3 yi), (1861, .arr 3 yi)] }) (((), ((), (k.2.1, ()))), (((), ((), ((), (k.2.2.2.1, ())))), (((), ((), ((), (k.2.2.2.2.1, ())))), (k.2.2.2.2.2.1, (k.2.2.2.2.2.2, (r, ()))))))))⟩
noncomputable def T_zh (a1_ : Y1) (a2_ : List Y1) (a3_ : Y1) (a4_ : Int) (a5_ : Int) (a6_ : Int) (a7_ : Int) (a8_ : Int) (a9_ : Y1) : Tr Yh :=
 .c (Bool) (wab a1_ a2_ a3_ a4_) fun r1_ =>
 .t (!r1_)
 (.l ((0 : Int), (false, (([] : Y1), (([] : List Y1), ([] : Y1))))))
 (.c (Bool) (F_zj a5_ a6_ a7_ a8_ a9_) fun r2_ =>
 .t (!r2_)
 (.l ((0 : Int), (false, (([] : Y1), (([] : List Y1), ([] : Y1))))))
 (.c Yn (F_ze a1_ a2_ a3_ a4_) fun r3_ =>
 .c (Int) (wia a3_) fun r4_ =>
 .c (Bool) (wcs a6_ (0 : Int) (wrap .i64 (((length a2_ : Nat) : Int) - 1))) fun r5_ =>
 .t (a5_ == 1)
 (.c (Bool) (wmn a6_ a1_ a2_ a3_ a4_) fun r6_ =>
 .t r6_
 (.c (Bool) (wbi r4_ a6_) fun r7_ =>
 .t (!r7_)
 (.g (decide (0 ≤ a6_)) <|
 .c Y1 (wcl (wrap .u64 (BitVec.toNat ((BitVec.ofInt Zd r4_) ||| (BitVec.ofInt Zd (wrap .u64 ((1 : Int) * 2 ^ (min (toNat a6_) Zd)))))))) fun r8_ =>
 .t (!(!r7_))
 (.l ((0 : Int), (false, (([] : Y1), (([] : List Y1), ([] : Y1))))))
 (.c (Bool) (wab r3_.2.1 r3_.2.2.1 r8_ (wrap .i64 (r3_.1 + 1))) fun r9_ =>
 .t (!r9_)
 (.l ((0 : Int), (false, (([] : Y1), (([] : List Y1), ([] : Y1))))))
 (.l ((wrap .i64 (r3_.1 + 1)), (true, (r3_.2.1, (r3_.2.2.1, r8_)))))))
 (.t (!(!r7_))
 (.l ((0 : Int), (false, (([] : Y1), (([] : List Y1), ([] : Y1))))))
 (.c (Bool) (wab r3_.2.1 r3_.2.2.1 r3_.2.2.2 (wrap .i64 (r3_.1 + 1))) fun r10_ =>
 .t (!r10_)
 (.l ((0 : Int), (false, (([] : Y1), (([] : List Y1), ([] : Y1))))))
 (.l ((wrap .i64 (r3_.1 + 1)), (true, (r3_.2.1, (r3_.2.2.1, r3_.2.2.2))))))))
 (.l ((0 : Int), (false, (([] : Y1), (([] : List Y1), ([] : Y1)))))))
 (.t (a5_ == 2)
 (.c (Bool) (wmn a6_ a1_ a2_ a3_ a4_) fun r11_ =>
 .t r11_
 (.c (Bool) (wbi r4_ a6_) fun r12_ =>
 .t r12_
 (.g (decide (0 ≤ a6_)) <|
 .c Y1 (wcl (wrap .u64 (BitVec.toNat ((BitVec.ofInt Zd r4_) &&& ~~~(BitVec.ofInt Zd (wrap .u64 ((1 : Int) * 2 ^ (min (toNat a6_) Zd)))))))) fun r13_ =>
 .t (!r12_)
 (.l ((0 : Int), (false, (([] : Y1), (([] : List Y1), ([] : Y1))))))
 (.c (Bool) (wab r3_.2.1 r3_.2.2.1 r13_ (wrap .i64 (r3_.1 + 1))) fun r14_ =>
 .t (!r14_)
 (.l ((0 : Int), (false, (([] : Y1), (([] : List Y1), ([] : Y1))))))
 (.l ((wrap .i64 (r3_.1 + 1)), (true, (r3_.2.1, (r3_.2.2.1, r13_)))))))
 (.t (!r12_)
 (.l ((0 : Int), (false, (([] : Y1), (([] : List Y1), ([] : Y1))))))
 (.c (Bool) (wab r3_.2.1 r3_.2.2.1 r3_.2.2.2 (wrap .i64 (r3_.1 + 1))) fun r15_ =>
 .t (!r15_)
 (.l ((0 : Int), (false, (([] : Y1), (([] : List Y1), ([] : Y1))))))
 (.l ((wrap .i64 (r3_.1 + 1)), (true, (r3_.2.1, (r3_.2.2.1, r3_.2.2.2))))))))
 (.l ((0 : Int), (false, (([] : Y1), (([] : List Y1), ([] : Y1)))))))
 (.t (a5_ == 3)
 (.c (Bool) (wmn a6_ a1_ a2_ a3_ a4_) fun r16_ =>
 .t r16_
 (.c (Bool) (wmn a7_ a1_ a2_ a3_ a4_) fun r17_ =>
 .t r17_
 (.c (Bool) (wbi r4_ a6_) fun r18_ =>
 .t r18_
 (.c (Bool) (wbi r4_ a7_) fun r19_ =>
 .t (!r19_)
 (.c Y1 (wla a3_ a6_ a7_) fun r20_ =>
 .t (!(!r19_))
 (.l ((0 : Int), (false, (([] : Y1), (([] : List Y1), ([] : Y1))))))
 (.c (Bool) (wab r3_.2.1 r3_.2.2.1 r20_ (wrap .i64 (r3_.1 + 1))) fun r21_ =>
 .t (!r21_)
 (.l ((0 : Int), (false, (([] : Y1), (([] : List Y1), ([] : Y1))))))
 (.l ((wrap .i64 (r3_.1 + 1)), (true, (r3_.2.1, (r3_.2.2.1, r20_)))))))
 (.t (!(!r19_))
 (.l ((0 : Int), (false, (([] : Y1), (([] : List Y1), ([] : Y1))))))
 (.c (Bool) (wab r3_.2.1 r3_.2.2.1 r3_.2.2.2 (wrap .i64 (r3_.1 + 1))) fun r22_ =>
 .t (!r22_)
 (.l ((0 : Int), (false, (([] : Y1), (([] : List Y1), ([] : Y1))))))
 (.l ((wrap .i64 (r3_.1 + 1)), (true, (r3_.2.1, (r3_.2.2.1, r3_.2.2.2))))))))
 (.l ((0 : Int), (false, (([] : Y1), (([] : List Y1), ([] : Y1)))))))
 (.l ((0 : Int), (false, (([] : Y1), (([] : List Y1), ([] : Y1)))))))
 (.l ((0 : Int), (false, (([] : Y1), (([] : List Y1), ([] : Y1)))))))
 (.t (a5_ == 4)
 (.c (Bool) (wmn a6_ a1_ a2_ a3_ a4_) fun r23_ =>
 .t r23_
 (.g (inR a6_ (length r3_.2.1)) <|
 .g (decide ((toNat a6_) < length r3_.2.1)) <|
 .t (!r23_)
 (.l ((0 : Int), (false, (([] : Y1), (([] : List Y1), ([] : Y1))))))
 (.c (Bool) (wab (set r3_.2.1 (toNat a6_) a7_) r3_.2.2.1 r3_.2.2.2 (wrap .i64 (r3_.1 + 1))) fun r24_ =>
 .t (!r24_)
 (.l ((0 : Int), (false, (([] : Y1), (([] : List Y1), ([] : Y1))))))
 (.l ((wrap .i64 (r3_.1 + 1)), (true, ((set r3_.2.1 (toNat a6_) a7_), (r3_.2.2.1, r3_.2.2.2)))))))
 (.t (!r23_)
 (.l ((0 : Int), (false, (([] : Y1), (([] : List Y1), ([] : Y1))))))
 (.c (Bool) (wab r3_.2.1 r3_.2.2.1 r3_.2.2.2 (wrap .i64 (r3_.1 + 1))) fun r25_ =>
 .t (!r25_)
 (.l ((0 : Int), (false, (([] : Y1), (([] : List Y1), ([] : Y1))))))
 (.l ((wrap .i64 (r3_.1 + 1)), (true, (r3_.2.1, (r3_.2.2.1, r3_.2.2.2))))))))
 (.t (a5_ == 5)
 (.t r5_
 (.c (Bool) (wmn a7_ a1_ a2_ a3_ a4_) fun r26_ =>
 .t r26_
 (.g (inR a6_ (length r3_.2.2.1)) <|
 .g (decide ((toNat a6_) < length r3_.2.2.1)) <|
 .g (inR a7_ (length (getD r3_.2.2.1 (toNat a6_) ([] : Y1)))) <|
 .g (decide ((toNat a7_) < length (getD r3_.2.2.1 (toNat a6_) ([] : Y1)))) <|
 .t (!r26_)
 (.l ((0 : Int), (false, (([] : Y1), (([] : List Y1), ([] : Y1))))))
 (.c (Bool) (wab r3_.2.1 (set r3_.2.2.1 (toNat a6_) (set (getD r3_.2.2.1 (toNat a6_) ([] : Y1)) (toNat a7_) a8_)) r3_.2.2.2 (wrap .i64 (r3_.1 + 1))) fun r27_ =>
 .t (!r27_)
 (.l ((0 : Int), (false, (([] : Y1), (([] : List Y1), ([] : Y1))))))
 (.l ((wrap .i64 (r3_.1 + 1)), (true, (r3_.2.1, ((set r3_.2.2.1 (toNat a6_) (set (getD r3_.2.2.1 (toNat a6_) ([] : Y1)) (toNat a7_) a8_)), r3_.2.2.2)))))))
 (.t (!r26_)
 (.l ((0 : Int), (false, (([] : Y1), (([] : List Y1), ([] : Y1))))))
 (.c (Bool) (wab r3_.2.1 r3_.2.2.1 r3_.2.2.2 (wrap .i64 (r3_.1 + 1))) fun r28_ =>
 .t (!r28_)
 (.l ((0 : Int), (false, (([] : Y1), (([] : List Y1), ([] : Y1))))))
 (.l ((wrap .i64 (r3_.1 + 1)), (true, (r3_.2.1, (r3_.2.2.1, r3_.2.2.2))))))))
 (.l ((0 : Int), (false, (([] : Y1), (([] : List Y1), ([] : Y1)))))))
 (.t (a5_ == 6)
 (.t (((length a9_ : Nat) : Int) == ((length a2_ : Nat) : Int))
 (.g (decide ((length r3_.2.1 + length ([a6_] : Y1)) * 8 ≤ 140737488355328)) <|
 .c Y2 (L_zi ((((length a9_ : Nat) : Int) == ((length a2_ : Nat) : Int)), (a9_, (((length a9_ : Nat) : Int), ((0 : Int), ((wrap .i64 (r3_.1 + 1)), (([] : Y1), (([] : Y1), ((r3_.2.1 ++ ([a6_] : Y1)), r3_.2.2.2)))))))) ((0 : Int), r3_.2.2.1)) fun r48_ =>
 .t (!(((length a9_ : Nat) : Int) == ((length a2_ : Nat) : Int)))
 (.l ((0 : Int), (false, (([] : Y1), (([] : List Y1), ([] : Y1))))))
 (.c (Bool) (wab (r3_.2.1 ++ ([a6_] : Y1)) r48_ r3_.2.2.2 (wrap .i64 (r3_.1 + 1))) fun r49_ =>
 .t (!r49_)
 (.l ((0 : Int), (false, (([] : Y1), (([] : List Y1), ([] : Y1))))))
 (.l ((wrap .i64 (r3_.1 + 1)), (true, ((r3_.2.1 ++ ([a6_] : Y1)), (r48_, r3_.2.2.2)))))))
 (.t (!(((length a9_ : Nat) : Int) == ((length a2_ : Nat) : Int)))
 (.l ((0 : Int), (false, (([] : Y1), (([] : List Y1), ([] : Y1))))))
 (.c (Bool) (wab r3_.2.1 r3_.2.2.1 r3_.2.2.2 (wrap .i64 (r3_.1 + 1))) fun r50_ =>
 .t (!r50_)
 (.l ((0 : Int), (false, (([] : Y1), (([] : List Y1), ([] : Y1))))))
 (.l ((wrap .i64 (r3_.1 + 1)), (true, (r3_.2.1, (r3_.2.2.1, r3_.2.2.2))))))))
 (.t (a5_ == 7)
 (.c (List Int) (wdc a9_) fun r51_ =>
 .g (decide ((length r3_.2.2.1 + 1) * 24 ≤ 140737488355328)) <|
 .c (Bool) (wab r3_.2.1 (set (r3_.2.2.1 ++ [[]]) (length r3_.2.2.1) r51_) r3_.2.2.2 (wrap .i64 (r3_.1 + 1))) fun r52_ =>
 .t (!r52_)
 (.l ((0 : Int), (false, (([] : Y1), (([] : List Y1), ([] : Y1))))))
 (.l ((wrap .i64 (r3_.1 + 1)), (true, (r3_.2.1, ((set (r3_.2.2.1 ++ [[]]) (length r3_.2.2.1) r51_), r3_.2.2.2))))))
 (.t (a5_ == 8)
 (.c (Bool) (wmn a6_ a1_ a2_ a3_ a4_) fun r53_ =>
 .t r53_
 (.c (Bool) (wbi r4_ a6_) fun r54_ =>
 .t (!r54_)
 (.c (List Int) (wos a6_ (wrap .i64 (a6_ + 1)) r3_.2.1) fun r55_ =>
 .c Y2 (wqa (a6_, ((!r54_), (((length r3_.2.2.1 : Nat) : Int), ((0 : Int), ((wrap .i64 (r3_.1 + 1)), (r55_, r3_.2.2.2)))))) ((0 : Int), r3_.2.2.1)) fun r73_ =>
 .c Y1 (wqb (a6_, ((!r54_), (((length r3_.2.2.2 : Nat) : Int), ((0 : Int), ((wrap .i64 (r3_.1 + 1)), (r55_, r73_)))))) ((0 : Int), r3_.2.2.2)) fun r89_ =>
 .t (!(!r54_))
 (.l ((0 : Int), (false, (([] : Y1), (([] : List Y1), ([] : Y1))))))
 (.c (Bool) (wab r55_ r73_ r89_ (wrap .i64 (r3_.1 + 1))) fun r90_ =>
 .t (!r90_)
 (.l ((0 : Int), (false, (([] : Y1), (([] : List Y1), ([] : Y1))))))
 (.l ((wrap .i64 (r3_.1 + 1)), (true, (r55_, (r73_, r89_)))))))
 (.t (!(!r54_))
 (.l ((0 : Int), (false, (([] : Y1), (([] : List Y1), ([] : Y1))))))
 (.c (Bool) (wab r3_.2.1 r3_.2.2.1 r3_.2.2.2 (wrap .i64 (r3_.1 + 1))) fun r91_ =>
 .t (!r91_)
 (.l ((0 : Int), (false, (([] : Y1), (([] : List Y1), ([] : Y1))))))
 (.l ((wrap .i64 (r3_.1 + 1)), (true, (r3_.2.1, (r3_.2.2.1, r3_.2.2.2))))))))
 (.l ((0 : Int), (false, (([] : Y1), (([] : List Y1), ([] : Y1)))))))
 (.t (a5_ == 9)
 (.t r5_
 (.c (List (List Int)) (waeo a6_ (wrap .i64 (a6_ + 1)) r3_.2.2.1) fun r92_ =>
 .t (!r5_)
 (.l ((0 : Int), (false, (([] : Y1), (([] : List Y1), ([] : Y1))))))
 (.c (Bool) (wab r3_.2.1 r92_ r3_.2.2.2 (wrap .i64 (r3_.1 + 1))) fun r93_ =>
 .t (!r93_)
 (.l ((0 : Int), (false, (([] : Y1), (([] : List Y1), ([] : Y1))))))
 (.l ((wrap .i64 (r3_.1 + 1)), (true, (r3_.2.1, (r92_, r3_.2.2.2)))))))
 (.t (!r5_)
 (.l ((0 : Int), (false, (([] : Y1), (([] : List Y1), ([] : Y1))))))
 (.c (Bool) (wab r3_.2.1 r3_.2.2.1 r3_.2.2.2 (wrap .i64 (r3_.1 + 1))) fun r94_ =>
 .t (!r94_)
 (.l ((0 : Int), (false, (([] : Y1), (([] : List Y1), ([] : Y1))))))
 (.l ((wrap .i64 (r3_.1 + 1)), (true, (r3_.2.1, (r3_.2.2.1, r3_.2.2.2))))))))
 (.t (a5_ == 10)
 (.c (Int × Ybc) (F_zx a1_ a2_ a3_) fun r95_ =>
 .t (!r95_.2.1)
 (.l ((0 : Int), (false, (([] : Y1), (([] : List Y1), ([] : Y1))))))
 (.c (Bool) (wab r3_.2.1 r3_.2.2.1 r95_.2.2 (wrap .i64 (r3_.1 + 1))) fun r96_ =>
 .t (!r96_)
 (.l ((0 : Int), (false, (([] : Y1), (([] : List Y1), ([] : Y1))))))
 (.l ((wrap .i64 (r3_.1 + 1)), (true, (r3_.2.1, (r3_.2.2.1, r95_.2.2)))))))
 (.t (a5_ == 11)
 (.c Ybc (F_zf a1_ a2_) fun r97_ =>
 .t (!r97_.1)
 (.l ((0 : Int), (false, (([] : Y1), (([] : List Y1), ([] : Y1))))))
 (.c (Bool) (wab r3_.2.1 r3_.2.2.1 r97_.2 (wrap .i64 (r3_.1 + 1))) fun r98_ =>
 .t (!r98_)
 (.l ((0 : Int), (false, (([] : Y1), (([] : List Y1), ([] : Y1))))))
 (.l ((wrap .i64 (r3_.1 + 1)), (true, (r3_.2.1, (r3_.2.2.1, r97_.2)))))))
 (.l ((0 : Int), (false, (([] : Y1), (([] : List Y1), ([] : Y1))))))))))))))))))
noncomputable def wcn (a1_ : Y1) (a2_ : List Y1) (a3_ : Y1) (a4_ : Int) (a5_ : Int) (a6_ : Int) (a7_ : Int) (a8_ : Int) (a9_ : Y1) : Option Yh := (T_zh a1_ a2_ a3_ a4_ a5_ a6_ a7_ a8_ a9_).ev
noncomputable def K_zh : RetK := { acts := [.ownB 4 0 5 3 yi, .ownRB 4 1 7 24 3 yi, .ownB 4 2 8 3 yi, .ren 1859 5, .ren 13888 5, .pinB 4 1 7, .pinB 4 2 8], res := [.cell 4 68, .tmp 5], sh := (yj [.agg (yj [.arr 5, .arr 7, .arr 8, .dat yi]), .dat .bool]), obs := [(5, .arr 3 yi), (7, .rows 24 3 yi), (8, .arr 3 yi)], pins := [] }
noncomputable def D_zh : FD := yd (yj [.agg Zk, .agg Zad]) [] [] Yh (fun x => wcn x.1.1.1 x.1.1.2.1 x.1.1.2.2.1 x.1.1.2.2.2.1 x.1.2.1.1 x.1.2.1.2.1 x.1.2.1.2.2.1 x.1.2.1.2.2.2.1 x.1.2.1.2.2.2.2.1) (fun r => ([.agg [.arr 5, .arr 7, .arr 8, .dat yi r.1], .dat .bool r.2.1], [(5, .arr 3 yi r.2.2.1), (7, .rows 24 3 yi r.2.2.2.1 none), (8, .arr 3 yi r.2.2.2.2)]))
def Z_zh : Nat → Nat → List Nat := fun r i => match look [(48, [(0, [2000016]), (10, [5500016])])] r with
 | some l => (look l i).getD []
 | none => []
noncomputable def E_zh : Env := envOf [(65, D_zu), (139, D_zj), (140, D_ze), (141, wkx), (104, wdj), (142, D_zi), (143, wky), (144, wib), (145, wor), (146, wjj), (147, waen), (148, waep), (77, D_zx), (149, D_zf)]
noncomputable def O_zh : List (Nat × LD) := [(1, wafs), (3, wmc), (5, wmd)]
noncomputable def C_zh : Code := (f45.body).getD .skip
noncomputable def waai (a1_ : Y1) (a2_ : List Y1) (a3_ : Y1) (a4_ : Int) (a5_ : Int) (a6_ : Int) (a7_ : Int) (a8_ : Int) (a9_ : Y1) : Tr Yh :=
 .c (Bool) (wdd a1_ a2_ a3_ a4_) fun r1_ =>
 .t (!r1_)
 (.l ((0 : Int), (false, (([] : Y1), (([] : List Y1), ([] : Y1))))))
 (.c Yh (whz a1_ a2_ a3_ a4_ a5_ a6_ a7_ a8_ a9_) fun r2_ =>
 .l (r2_.1, (r2_.2.1, (r2_.2.2.1, (r2_.2.2.2.1, r2_.2.2.2.2)))))
noncomputable def wpg (a1_ : Y1) (a2_ : List Y1) (a3_ : Y1) (a4_ : Int) (a5_ : Int) (a6_ : Int) (a7_ : Int) (a8_ : Int) (a9_ : Y1) : Option Yh := (waai a1_ a2_ a3_ a4_ a5_ a6_ a7_ a8_ a9_).ev
noncomputable def wape : RetK := { acts := [.ownB 4 0 5 3 yi, .ownRB 4 1 6 24 3 yi, .ownB 4 2 7 3 yi, .ren 773 5, .ren 775 6, .ren 776 7], res := [.cell 4 68, .tmp 5], sh := (yj [.agg (yj [.arr 5, .arr 6, .arr 7, .dat yi]), .dat .bool]), obs := [(5, .arr 3 yi), (6, .rows 24 3 yi), (7, .arr 3 yi)], pins := [] }
noncomputable def waaj : FD := yd (yj [.agg Zk, .agg Zad]) [] [] Yh (fun x => wpg x.1.1.1 x.1.1.2.1 x.1.1.2.2.1 x.1.1.2.2.2.1 x.1.2.1.1 x.1.2.1.2.1 x.1.2.1.2.2.1 x.1.2.1.2.2.2.1 x.1.2.1.2.2.2.2.1) (fun r => ([.agg [.arr 5, .arr 6, .arr 7, .dat yi r.1], .dat .bool r.2.1], [(5, .arr 3 yi r.2.2.1), (6, .rows 24 3 yi r.2.2.2.1 none), (7, .arr 3 yi r.2.2.2.2)]))
noncomputable def wbe (k : Int × Yl) (v : Int × (Y1 × (Int × (Int × (List Yx))))) : Tr ((Int × (Y1 × (Int × (Int × (List Yx))))) ⊕ (List Yx)) :=
 .t (decide (0 < v.1))
 (.c Ybf (wei k.2.1 k.2.2.1 v.2.1 v.2.2.1 v.2.2.2.1) fun r13_ =>
 .g (decide ((length v.2.2.2.2 + length ([(r13_.1, (r13_.2.1, (r13_.2.2.1, (r13_.2.2.2.1, r13_.2.2.2.2.1))))] : List Yx)) * 56 ≤ 140737488355328)) <|
 .l (.inl ((wrap .i64 (v.1 - 1)), (r13_.2.2.2.2.2.1, (r13_.2.2.2.2.2.2.1, (r13_.2.2.2.2.2.2.2, (v.2.2.2.2 ++ ([(r13_.1, (r13_.2.1, (r13_.2.2.1, (r13_.2.2.2.1, r13_.2.2.2.2.1))))] : List Yx))))))))
 (.l (.inr v.2.2.2.2))
noncomputable def wdg (k : Int × Yl) (v : Int × (Y1 × (Int × (Int × (List Yx))))) : Option (List Yx) := iter (fun v => (wbe k v).ev) v
noncomputable def whb : LD := ⟨{ acts := [], S := { slots := [2, 4, 5, 6, 7], sh := (yj [.box 2 0, .box 10 0, .box 5 0, .arr 13, .dat yi]), obs := [(2, .cells Zq), (10, .cells (yj [.dat Zab, .dat yi, .dat (.int .u64)])), (5, .cells (yj [.dat y1, .dat y2, .arr 769, .dat yi])), (13, .arr 72 (.pair yi (.pair yi (.pair yi (.pair yi y1))))), (769, .arr 3 yi)] } }, [(0, { acts := [], S := { slots := [2, 5, 6], sh := (yj [.box 2 0, .box 5 0, .arr 13]), obs := [(2, .cells Zq), (5, .cells (yj [.dat y1, .dat y2, .arr 769, .dat yi])), (13, .arr 72 (.pair yi (.pair yi (.pair yi (.pair yi y1))))), (769, .arr 3 yi)] } })], (yh [] .nil), Int × Yl, Int × (Y1 × (Int × (Int × (List Yx)))), List Yx, fun k v => (((), ((), ((), ((), (v.1, ()))))), (((), ((), ((), (k.1, ())))), ((v.2.1, (v.2.2.1, (v.2.2.2.1, ()))), ((k.2.1, (k.2.2.1, ((), (k.2.2.2.1, ())))), (v.2.2.2.2, (k.2.2.2.2, ())))))), fun t => (t.2.1.2.2.2.1, (t.2.2.2.1.1, (t.2.2.2.1.2.1, (t.2.2.2.1.2.2.2.1, t.2.2.2.2.2.1)))), fun t => (t.1.2.2.2.2.1, (t.2.2.1.1, (t.2.2.1.2.1, (t.2.2.1.2.2.1, t.2.2.2.2.1)))), wbe, fun k r => .l (.exit 0 (mkSt ({ slots := [2, 5, 6], sh := (yj [.box 2 0, .box 5 0, .arr 13]), obs := [(2, .cells Zq), (5, .cells (yj [.dat y1, .dat y2, .arr 769, .dat yi])), (13, .arr 72 (.pair yi (.pair yi (.pair yi (.pair yi y1))))), (769, .arr 3 yi)] }) (((), ((), ((), ()))), (((), ((), ((), (k.1, ())))), ((k.2.1, (k.2.2.1, ((), (k.2.2.2.1, ())))), (r, (k.2.2.2.2, ())))))))⟩
noncomputable def waak (a1_ : Y1) : Tr (Y1 × (Y2 × (Int × (Y1 × (List Yx))))) :=
 .c (Y1 × (Y2 × (Int × Yag))) (wkt a1_ (0 : Int) (0 : Int)) fun r1_ =>
 .c Yb (ww (6 : Int) r1_.2.2.2.2.1 r1_.2.2.2.2.2.1 r1_.2.2.2.2.2.2) fun r2_ =>
 .c (List Yx) (wdg ((0 : Int), (r1_.1, (r1_.2.1, (r1_.2.2.1, r1_.2.2.2.1)))) (r2_.1, (r2_.2.1, (r2_.2.2.1, (r2_.2.2.2, ([] : List Yx)))))) fun r20_ =>
 .l (r1_.1, (r1_.2.1, (r1_.2.2.1, (r1_.2.2.2.1, r20_))))
noncomputable def wph (a1_ : Y1) : Option (Y1 × (Y2 × (Int × (Y1 × (List Yx))))) := (waak a1_).ev
noncomputable def wapf : RetK := { acts := [.ren 769 3, .ren 13 1], res := [.cell 2 68, .tmp 3], sh := (yj [.agg (yj [.dat y1, .dat y2, .arr 3, .dat yi]), .arr 1]), obs := [(3, .arr 3 yi), (1, .arr 72 (.pair yi (.pair yi (.pair yi (.pair yi y1)))))], pins := [] }
noncomputable def waal : FD := yd (yj [.dat Zab]) [] [] (Y1 × (Y2 × (Int × (Y1 × (List Yx))))) (fun x => wph x.1.1) (fun r => ([.agg [.dat y1 r.1, .dat y2 r.2.1, .arr 3, .dat yi r.2.2.1], .arr 1], [(3, .arr 3 yi r.2.2.2.1), (1, .arr 72 (.pair yi (.pair yi (.pair yi (.pair yi y1)))) r.2.2.2.2)]))
noncomputable def waam : Nat → Nat → List Nat := fun r i => match look [(7, [(5, [24])])] r with
 | some l => (look l i).getD []
 | none => []
noncomputable def waan : Env := envOf [(158, woo), (120, wbh), (159, wjv)]
noncomputable def waao : List (Nat × LD) := [(0, whb)]
noncomputable def waap : Code := (f63.body).getD .skip
noncomputable def wco (k : (List Yx) × ((List Yx) × Yo)) (v : Int × Yn) : Tr ((Int × Yn) ⊕ (Yn ⊕ (Int × Yn))) :=
 .t (decide (v.1 < k.2.2.1))
 (.g (inR v.1 (length k.2.1)) <|
 .c Yh (wcn v.2.2.1 v.2.2.2.1 v.2.2.2.2 v.2.1 ((getD k.2.1 (toNat v.1) ((0 : Int), ((0 : Int), ((0 : Int), ((0 : Int), ([] : Y1)))))).1) ((getD k.2.1 (toNat v.1) ((0 : Int), ((0 : Int), ((0 : Int), ((0 : Int), ([] : Y1)))))).2.1) ((getD k.2.1 (toNat v.1) ((0 : Int), ((0 : Int), ((0 : Int), ((0 : Int), ([] : Y1)))))).2.2.1) ((getD k.2.1 (toNat v.1) ((0 : Int), ((0 : Int), ((0 : Int), ((0 : Int), ([] : Y1)))))).2.2.2.1) ((getD k.2.1 (toNat v.1) ((0 : Int), ((0 : Int), ((0 : Int), ((0 : Int), ([] : Y1)))))).2.2.2.2)) fun r42_ =>
 .t (!r42_.2.1)
 (.l (.inr (.inr (v.1, (v.2.1, (v.2.2.1, (v.2.2.2.1, v.2.2.2.2)))))))
 (.l (.inl ((wrap .i64 (v.1 + 1)), (r42_.1, (r42_.2.2.1, (r42_.2.2.2.1, r42_.2.2.2.2)))))))
 (.l (.inr (.inl (v.2.1, (v.2.2.1, (v.2.2.2.1, v.2.2.2.2))))))
noncomputable def wea (k : (List Yx) × ((List Yx) × Yo)) (v : Int × Yn) : Option (Yn ⊕ (Int × Yn)) := iter (fun v => (wco k v).ev) v
noncomputable def wme : LD := ⟨{ acts := [.repB 7 0 900670, .repB 7 1 900671, .repB 7 2 900672], S := { slots := [1, 4, 7, 18, 19, 20], sh := (yj [.dat (.slice (.pair yi (.pair yi (.pair yi (.pair yi y1))))), .box 4 0, .box 7 0, .dat (.slice (.pair yi (.pair yi (.pair yi (.pair yi y1))))), .dat yi, .dat yi]), obs := [Zba, (7, .cells Zbb), (900670, .arr 3 yi), (900671, .rows 24 3 yi), (900672, .arr 3 yi)] } }, [(0, { acts := [], S := { slots := [1, 4, 7], sh := (yj [.dat (.slice (.pair yi (.pair yi (.pair yi (.pair yi y1))))), .box 4 0, .box 7 0]), obs := [Zba, (7, .cells Zbb), (900670, .arr 3 yi), (900671, .rows 24 3 yi), (900672, .arr 3 yi)] } })], { acts := [], S := { slots := [4, 5, 6], sh := (yj [.box 4 0, .dat yi, .dat .bool]), obs := [(4, .cells Zbb), (900670, .arr 3 yi), (900671, .rows 24 3 yi), (900672, .arr 3 yi)] } }, (List Yx) × ((List Yx) × Yo), Int × Yn, Yn ⊕ (Int × Yn), fun k v => ((k.1, ((), ((), (k.2.1, (k.2.2.1, (v.1, ())))))), (((), ((), ((), (k.2.2.2, ())))), (((), ((), ((), (v.2.1, ())))), (v.2.2.1, (v.2.2.2.1, (v.2.2.2.2, ())))))), fun t => (t.1.1, (t.1.2.2.2.1, (t.1.2.2.2.2.1, t.2.1.2.2.2.1))), fun t => (t.1.2.2.2.2.2.1, (t.2.2.1.2.2.2.1, (t.2.2.2.1, (t.2.2.2.2.1, t.2.2.2.2.2.1)))), wco, fun k r => .s Yn (Int × Yn) r (fun a => .l (.exit 0 (mkSt ({ slots := [1, 4, 7], sh := (yj [.dat (.slice (.pair yi (.pair yi (.pair yi (.pair yi y1))))), .box 4 0, .box 7 0]), obs := [Zba, (7, .cells Zbb), (900670, .arr 3 yi), (900671, .rows 24 3 yi), (900672, .arr 3 yi)] }) ((k.1, ((), ((), ()))), (((), ((), ((), (k.2.2.2, ())))), (((), ((), ((), (a.1, ())))), (a.2.1, (a.2.2.1, (a.2.2.2, ()))))))))) (fun b => .l (.ret (mkSt ({ slots := [4, 5, 6], sh := (yj [.box 4 0, .dat yi, .dat .bool]), obs := [(4, .cells Zbb), (900670, .arr 3 yi), (900671, .rows 24 3 yi), (900672, .arr 3 yi)] }) (((), (b.1, (true, ()))), (((), ((), ((), (b.2.1, ())))), (b.2.2.1, (b.2.2.2.1, (b.2.2.2.2, ()))))))))⟩
noncomputable def T_zg (a1_ : Y1) (a2_ : List Y1) (a3_ : Y1) (a4_ : Int) (a5_ : List Yx) : Tr (Int × Yh) :=
 .c (Bool) (wab a1_ a2_ a3_ a4_) fun r1_ =>
 .t (!r1_)
 (.l ((0 : Int), ((0 : Int), (false, (([] : Y1), (([] : List Y1), ([] : Y1)))))))
 (.c Yn (F_ze a1_ a2_ a3_ a4_) fun r2_ =>
 .c (Yn ⊕ (Int × Yn)) (wea (a5_, (a5_, (((length a5_ : Nat) : Int), (0 : Int)))) ((0 : Int), (r2_.1, (r2_.2.1, (r2_.2.2.1, r2_.2.2.2))))) fun r55_ =>
 .s Yn (Int × Yn) r55_
 (fun r56_ => .l (r56_.1, (((length a5_ : Nat) : Int), (true, (r56_.2.1, (r56_.2.2.1, r56_.2.2.2))))))
 (fun r57_ => .l (r57_.2.1, (r57_.1, (true, (r57_.2.2.1, (r57_.2.2.2.1, r57_.2.2.2.2)))))))
noncomputable def F_zg (a1_ : Y1) (a2_ : List Y1) (a3_ : Y1) (a4_ : Int) (a5_ : List Yx) : Option (Int × Yh) := (T_zg a1_ a2_ a3_ a4_ a5_).ev
noncomputable def K_zg : RetK := { acts := [.ownB 4 0 3 3 yi, .ownRB 4 1 5 24 3 yi, .ownB 4 2 6 3 yi, .ren 900670 3, .ren 900671 5, .ren 900672 6], res := [.cell 4 68, .tmp 5, .tmp 6], sh := (yj [.agg (yj [.arr 3, .arr 5, .arr 6, .dat yi]), .dat yi, .dat .bool]), obs := [(3, .arr 3 yi), (5, .rows 24 3 yi), (6, .arr 3 yi)], pins := [] }
noncomputable def D_zg : FD := yd (yj [.agg Zk, .dat (.slice (.pair yi (.pair yi (.pair yi (.pair yi y1)))))]) [] [] (Int × Yh) (fun x => F_zg x.1.1.1 x.1.1.2.1 x.1.1.2.2.1 x.1.1.2.2.2.1 x.1.2.1) (fun r => ([.agg [.arr 3, .arr 5, .arr 6, .dat yi r.1], .dat yi r.2.1, .dat .bool r.2.2.1], [(3, .arr 3 yi r.2.2.2.1), (5, .rows 24 3 yi r.2.2.2.2.1 none), (6, .arr 3 yi r.2.2.2.2.2)]))
noncomputable def E_zg : Env := envOf [(65, D_zu), (140, D_ze), (45, D_zh)]
noncomputable def O_zg : List (Nat × LD) := [(0, wme)]
noncomputable def C_zg : Code := (f54.body).getD .skip
noncomputable def wah (k : (List Yx) × Int) (v : Int × Yaa) : Tr ((Int × Yaa) ⊕ (Yaa ⊕ (Int × Yaa))) :=
 .t (decide (v.1 < ((length k.1 : Nat) : Int)))
 (.g (inR v.1 (length k.1)) <|
 .c Yh (whz v.2.1 v.2.2.1 v.2.2.2.1 v.2.2.2.2 ((getD k.1 (toNat v.1) ((0 : Int), ((0 : Int), ((0 : Int), ((0 : Int), ([] : Y1)))))).1) ((getD k.1 (toNat v.1) ((0 : Int), ((0 : Int), ((0 : Int), ((0 : Int), ([] : Y1)))))).2.1) ((getD k.1 (toNat v.1) ((0 : Int), ((0 : Int), ((0 : Int), ((0 : Int), ([] : Y1)))))).2.2.1) ((getD k.1 (toNat v.1) ((0 : Int), ((0 : Int), ((0 : Int), ((0 : Int), ([] : Y1)))))).2.2.2.1) ((getD k.1 (toNat v.1) ((0 : Int), ((0 : Int), ((0 : Int), ((0 : Int), ([] : Y1)))))).2.2.2.2)) fun r34_ =>
 .t (!r34_.2.1)
 (.l (.inr (.inr (v.1, (v.2.1, (v.2.2.1, (v.2.2.2.1, v.2.2.2.2)))))))
 (.l (.inl ((wrap .i64 (v.1 + 1)), (r34_.2.2.1, (r34_.2.2.2.1, (r34_.2.2.2.2, r34_.1)))))))
 (.l (.inr (.inl (v.2.1, (v.2.2.1, (v.2.2.2.1, v.2.2.2.2))))))
noncomputable def wcp (k : (List Yx) × Int) (v : Int × Yaa) : Option (Yaa ⊕ (Int × Yaa)) := iter (fun v => (wah k v).ev) v
noncomputable def whc : LD := ⟨{ acts := [.fz 1028, .fz 1029, .fz 1030, .fz 1861, .fz 1863, .fz 1864], S := { slots := [1, 4, 7, 8], sh := (yj [.dat (.slice (.pair yi (.pair yi (.pair yi (.pair yi y1))))), .box 4 0, .box 7 0, .dat yi]), obs := [Zba, (7, .cells Zk)] } }, [(0, { acts := [], S := { slots := [1, 4, 7], sh := (yj [.dat (.slice (.pair yi (.pair yi (.pair yi (.pair yi y1))))), .box 4 0, .box 7 0]), obs := [Zba, (7, .cells Zk)] } })], { acts := [], S := { slots := [4, 5, 6], sh := (yj [.box 4 0, .dat yi, .dat .bool]), obs := [(4, .cells Zk)] } }, (List Yx) × (Int), Int × Yaa, Yaa ⊕ (Int × Yaa), fun k v => ((k.1, ((), ((), (v.1, ())))), (((), ((), ((), (k.2, ())))), ((v.2.1, (v.2.2.1, (v.2.2.2.1, (v.2.2.2.2, ())))), ()))), fun t => (t.1.1, t.2.1.2.2.2.1), fun t => (t.1.2.2.2.1, (t.2.2.1.1, (t.2.2.1.2.1, (t.2.2.1.2.2.1, t.2.2.1.2.2.2.1)))), wah, fun k r => .s Yaa (Int × Yaa) r (fun a => .l (.exit 0 (mkSt ({ slots := [1, 4, 7], sh := (yj [.dat (.slice (.pair yi (.pair yi (.pair yi (.pair yi y1))))), .box 4 0, .box 7 0]), obs := [Zba, (7, .cells Zk)] }) ((k.1, ((), ((), ()))), (((), ((), ((), (k.2, ())))), ((a.1, (a.2.1, (a.2.2.1, (a.2.2.2, ())))), ())))))) (fun b => .l (.ret (mkSt ({ slots := [4, 5, 6], sh := (yj [.box 4 0, .dat yi, .dat .bool]), obs := [(4, .cells Zk)] }) (((), (b.1, (true, ()))), ((b.2.1, (b.2.2.1, (b.2.2.2.1, (b.2.2.2.2, ())))), ())))))⟩
noncomputable def waaq (a1_ : Y1) (a2_ : List Y1) (a3_ : Y1) (a4_ : Int) (a5_ : List Yx) : Tr (Y1 × (Y2 × (Y1 × (Int × Yap)))) :=
 .c (Bool) (wdd a1_ a2_ a3_ a4_) fun r1_ =>
 .t (!r1_)
 (.l (([] : Y1), (([] : List Y1), (([] : Y1), ((0 : Int), ((0 : Int), false))))))
 (.c Yn (weh a1_ a2_ a3_ a4_) fun r2_ =>
 .c (Yaa ⊕ (Int × Yaa)) (wcp (a5_, (0 : Int)) ((0 : Int), (r2_.2.1, (r2_.2.2.1, (r2_.2.2.2, r2_.1))))) fun r47_ =>
 .s Yaa (Int × Yaa) r47_
 (fun r48_ => .l (r48_.1, (r48_.2.1, (r48_.2.2.1, (r48_.2.2.2, (((length a5_ : Nat) : Int), true))))))
 (fun r49_ => .l (r49_.2.1, (r49_.2.2.1, (r49_.2.2.2.1, (r49_.2.2.2.2, (r49_.1, true)))))))
noncomputable def wpi (a1_ : Y1) (a2_ : List Y1) (a3_ : Y1) (a4_ : Int) (a5_ : List Yx) : Option (Y1 × (Y2 × (Y1 × (Int × Yap)))) := (waaq a1_ a2_ a3_ a4_ a5_).ev
noncomputable def wapl : RetK := yr [.cell 4 68, .tmp 5, .tmp 6] (yj [.agg Zk, .dat yi, .dat .bool])
noncomputable def waar : FD := yd (yj [.agg Zk, .dat (.slice (.pair yi (.pair yi (.pair yi (.pair yi y1)))))]) [] [] (Y1 × (Y2 × (Y1 × (Int × Yap)))) (fun x => wpi x.1.1.1 x.1.1.2.1 x.1.1.2.2.1 x.1.1.2.2.2.1 x.1.2.1) (fun r => ([.agg [.dat y1 r.1, .dat y2 r.2.1, .dat y1 r.2.2.1, .dat yi r.2.2.2.1], .dat yi r.2.2.2.2.1, .dat .bool r.2.2.2.2.2], []))
noncomputable def waas : Env := envOf [(135, wdl), (156, whu), (136, wks)]
noncomputable def waat : List (Nat × LD) := [(0, whc)]
noncomputable def waau : Code := (f52.body).getD .skip
noncomputable def wcq (k : Y1 × Y1) (v : Int) : Tr ((Int) ⊕ ((Unit) ⊕ (Unit))) :=
 .t (decide (v < ((length k.1 : Nat) : Int)))
 (.g (inR v (length k.1)) <|
 .g (inR v (length k.2)) <|
 .t ((getD k.1 (toNat v) 0) != (getD k.2 (toNat v) 0))
 (.l (.inr (.inr ())))
 (.l (.inl (wrap .i64 (v + 1)))))
 (.l (.inr (.inl ())))
noncomputable def wmf (k : Y1 × Y1) (v : Int) : Option ((Unit) ⊕ (Unit)) := iter (fun v => (wcq k v).ev) v
noncomputable def whd : LD := ⟨(yh [0, 1, 5] (yj [.dat y1, .dat y1, .dat yi])), [(0, (yh [] .nil))], (yh [4] Zp), Y1 × Y1, Int, (Unit) ⊕ (Unit), fun k v => ((k.1, (k.2, (v, ()))), ()), fun t => (t.1.1, t.1.2.1), fun t => t.1.2.2.1, wcq, fun _ r => .s (Unit) (Unit) r (fun _ => .l (.exit 0 (mkSt ((ys [] .nil)) ((), ())))) (fun _ => .l (.ret (mkSt ((ys [4] Zp)) ((false, ()), ()))))⟩
noncomputable def waav (a1_ : Y1) (a2_ : Y1) : Tr (Bool) :=
 .t (((length a1_ : Nat) : Int) != ((length a2_ : Nat) : Int))
 (.l false)
 (.c ((Unit) ⊕ (Unit)) (wmf (a1_, a2_) (0 : Int)) fun r5_ =>
 .s (Unit) (Unit) r5_
 (fun _ => .l true)
 (fun _ => .l false))
noncomputable def wai (a1_ : Y1) (a2_ : Y1) : Option (Bool) := (waav a1_ a2_).ev
noncomputable def wapm : RetK := yr [.tmp 4] Zp
noncomputable def wic : FD := yd (yj [.dat y1, .dat y1]) [] [] Bool (fun x => wai x.1.1 x.1.2.1) (fun r => ([.dat .bool r], []))
noncomputable def waaw : Env := envOf []
noncomputable def waax : List (Nat × LD) := [(0, whd)]
noncomputable def waay : Code := (f69.body).getD .skip
noncomputable def wcr (k : Y2 × Y2) (v : Int) : Tr ((Int) ⊕ ((Unit) ⊕ (Unit))) :=
 .t (decide (v < ((length k.1 : Nat) : Int)))
 (.g (inR v (length k.1)) <|
 .g (inR v (length k.2)) <|
 .c (Bool) (wai (getD k.1 (toNat v) ([] : Y1)) (getD k.2 (toNat v) ([] : Y1))) fun r4_ =>
 .t (!r4_)
 (.l (.inr (.inr ())))
 (.l (.inl (wrap .i64 (v + 1)))))
 (.l (.inr (.inl ())))
noncomputable def wmg (k : Y2 × Y2) (v : Int) : Option ((Unit) ⊕ (Unit)) := iter (fun v => (wcr k v).ev) v
noncomputable def whe : LD := ⟨(yh [0, 1, 5] (yj [.dat y2, .dat y2, .dat yi])), [(0, (yh [] .nil))], (yh [4] Zp), Y2 × Y2, Int, (Unit) ⊕ (Unit), fun k v => ((k.1, (k.2, (v, ()))), ()), fun t => (t.1.1, t.1.2.1), fun t => t.1.2.2.1, wcr, fun _ r => .s (Unit) (Unit) r (fun _ => .l (.exit 0 (mkSt ((ys [] .nil)) ((), ())))) (fun _ => .l (.ret (mkSt ((ys [4] Zp)) ((false, ()), ()))))⟩
noncomputable def waaz (a1_ : List Y1) (a2_ : List Y1) : Tr (Bool) :=
 .t (((length a1_ : Nat) : Int) != ((length a2_ : Nat) : Int))
 (.l false)
 (.c ((Unit) ⊕ (Unit)) (wmg (a1_, a2_) (0 : Int)) fun r6_ =>
 .s (Unit) (Unit) r6_
 (fun _ => .l true)
 (fun _ => .l false))
noncomputable def wpj (a1_ : List Y1) (a2_ : List Y1) : Option (Bool) := (waaz a1_ a2_).ev
noncomputable def wapn : RetK := yr [.tmp 4] Zp
noncomputable def waba : FD := yd (yj [.dat y2, .dat y2]) [] [] Bool (fun x => wpj x.1.1 x.1.2.1) (fun r => ([.dat .bool r], []))
noncomputable def wabb : Env := envOf [(69, wic)]
noncomputable def wabc : List (Nat × LD) := [(0, whe)]
noncomputable def wabd : Code := (f160.body).getD .skip
noncomputable def wabe (a1_ : Y1) (a2_ : List Y1) (a3_ : Y1) (a4_ : List Y1) : Tr (Bool) :=
 .c (Bool) (wai a1_ a3_) fun r1_ =>
 .t r1_
 (.c (Bool) (wpj a2_ a4_) fun r2_ =>
 .l r2_)
 (.l false)
noncomputable def wbj (a1_ : Y1) (a2_ : List Y1) (a3_ : Y1) (a4_ : List Y1) : Option (Bool) := (wabe a1_ a2_ a3_ a4_).ev
noncomputable def wapo : RetK := yr [.tmp 4] Zp
noncomputable def wpk : FD := yd (yj [.agg Zf, .agg Zf]) [] [] Bool (fun x => wbj x.1.1.1 x.1.1.2.1 x.1.2.1.1 x.1.2.1.2.1) (fun r => ([.dat .bool r], []))
noncomputable def wabf (a1_ : Y1) (a2_ : List Y1) (a3_ : Y1) (a4_ : Int) (a5_ : Y1) (a6_ : List Y1) (a7_ : Y1) (a8_ : Int) : Tr (Bool) :=
 .c (Bool) (wbj a1_ a2_ a5_ a6_) fun r1_ =>
 .t r1_
 (.c (Bool) (wai a3_ a7_) fun r2_ =>
 .t r2_
 (.l (a4_ == a8_))
 (.l false))
 (.l false)
noncomputable def web (a1_ : Y1) (a2_ : List Y1) (a3_ : Y1) (a4_ : Int) (a5_ : Y1) (a6_ : List Y1) (a7_ : Y1) (a8_ : Int) : Option (Bool) := (wabf a1_ a2_ a3_ a4_ a5_ a6_ a7_ a8_).ev
noncomputable def wapp : RetK := yr [.tmp 4] Zp
noncomputable def wabg : FD := yd (yj [.agg Zk, .agg Zk]) [] [] Bool (fun x => web x.1.1.1 x.1.1.2.1 x.1.1.2.2.1 x.1.1.2.2.2.1 x.1.2.1.1 x.1.2.1.2.1 x.1.2.1.2.2.1 x.1.2.1.2.2.2.1) (fun r => ([.dat .bool r], []))
noncomputable def wabh (a1_ : Y1) (a2_ : List Y1) (a3_ : Y1) (a4_ : Int) : Tr (Bool) :=
 .c (Bool) (wdd a1_ a2_ a3_ a4_) fun r1_ =>
 .l r1_
noncomputable def wpm (a1_ : Y1) (a2_ : List Y1) (a3_ : Y1) (a4_ : Int) : Option (Bool) := (wabh a1_ a2_ a3_ a4_).ev
noncomputable def wapq : RetK := yr [.tmp 2] Zp
noncomputable def wabi : FD := yd (yj [.agg Zk]) [] [] Bool (fun x => wpm x.1.1.1 x.1.1.2.1 x.1.1.2.2.1 x.1.1.2.2.2.1) (fun r => ([.dat .bool r], []))
noncomputable def T_zz (a1_ : Y1) (a2_ : List Y1) (a3_ : Y1) : Tr Yap :=
 .c (Bool) (wlb a1_ a2_ a3_) fun r1_ =>
 .t (!r1_)
 (.l ((0 : Int), false))
 (.c (Int) (wie a1_ a2_ a3_) fun r2_ =>
 .l (r2_, true))
noncomputable def F_zz (a1_ : Y1) (a2_ : List Y1) (a3_ : Y1) : Option Yap := (T_zz a1_ a2_ a3_).ev
noncomputable def K_zz : RetK := yr [.tmp 4, .tmp 5] (yj [.dat yi, .dat .bool])
noncomputable def D_zz : FD := yd (yj [.agg Zf, .dat y1]) [] [] Yap (fun x => F_zz x.1.1.1 x.1.1.2.1 x.1.2.1) (fun r => ([.dat yi r.1, .dat .bool r.2], []))
noncomputable def T_zd (a1_ : Y1) (a2_ : List Y1) (a3_ : Y1) (a4_ : Int) : Tr Yap :=
 .c (Bool) (wab a1_ a2_ a3_ a4_) fun r1_ =>
 .t (!r1_)
 (.l ((0 : Int), false))
 (.c Yap (F_zz a1_ a2_ a3_) fun r2_ =>
 .l (r2_.1, r2_.2))
noncomputable def wif (a1_ : Y1) (a2_ : List Y1) (a3_ : Y1) (a4_ : Int) : Option Yap := (T_zd a1_ a2_ a3_ a4_).ev
noncomputable def K_zd : RetK := yr [.tmp 2, .tmp 3] (yj [.dat yi, .dat .bool])
noncomputable def D_zd : FD := yd (yj [.agg Zk]) [] [] Yap (fun x => wif x.1.1.1 x.1.1.2.1 x.1.1.2.2.1 x.1.1.2.2.2.1) (fun r => ([.dat yi r.1, .dat .bool r.2], []))
noncomputable def wabj (a1_ : Y1) : Tr (Bool) :=
 .c (Bool) (wrb a1_) fun r1_ =>
 .t r1_
 (.l true)
 (.c Yy (wmy a1_) fun r2_ =>
 .c Yh (F_zy r2_.1 r2_.2) fun r3_ =>
 .c Yh (wnj r2_.1 r2_.2) fun r4_ =>
 .c Y1 (wjs a1_ (1 : Int)) fun r5_ =>
 .c (Y1 × (Y2 × (Int × (Int × Yae)))) (wop r5_) fun r6_ =>
 .c Yh (wcn r6_.1 r6_.2.1 r6_.2.2.2.2.2.2.2.1 r6_.2.2.1 r6_.2.2.2.1 r6_.2.2.2.2.1 r6_.2.2.2.2.2.1 r6_.2.2.2.2.2.2.1 r6_.2.2.2.2.2.2.2.2) fun r7_ =>
 .c Yh (wpg r6_.1 r6_.2.1 r6_.2.2.2.2.2.2.2.1 r6_.2.2.1 r6_.2.2.2.1 r6_.2.2.2.2.1 r6_.2.2.2.2.2.1 r6_.2.2.2.2.2.2.1 r6_.2.2.2.2.2.2.2.2) fun r8_ =>
 .c Y1 (wjs a1_ (2 : Int)) fun r9_ =>
 .c (Y1 × (Y2 × (Int × (Y1 × (List Yx))))) (wph r9_) fun r10_ =>
 .c (Int × Yh) (F_zg r10_.1 r10_.2.1 r10_.2.2.2.1 r10_.2.2.1 r10_.2.2.2.2) fun r11_ =>
 .c (Y1 × (Y2 × (Y1 × (Int × Yap)))) (wpi r10_.1 r10_.2.1 r10_.2.2.2.1 r10_.2.2.1 r10_.2.2.2.2) fun r12_ =>
 .t (!(r3_.2.1 == r4_.2.1))
 (.l false)
 (.c (Bool) (web r3_.2.2.1 r3_.2.2.2.1 r3_.2.2.2.2 r3_.1 r4_.2.2.1 r4_.2.2.2.1 r4_.2.2.2.2 r4_.1) fun r13_ =>
 .t (!r13_)
 (.l false)
 (.t (!(r7_.2.1 == r8_.2.1))
 (.l false)
 (.c (Bool) (web r7_.2.2.1 r7_.2.2.2.1 r7_.2.2.2.2 r7_.1 r8_.2.2.1 r8_.2.2.2.1 r8_.2.2.2.2 r8_.1) fun r14_ =>
 .t (!r14_)
 (.l false)
 (.t (!(r11_.2.2.1 == r12_.2.2.2.2.2))
 (.l false)
 (.t (r11_.2.1 != r12_.2.2.2.2.1)
 (.l false)
 (.c (Bool) (web r11_.2.2.2.1 r11_.2.2.2.2.1 r11_.2.2.2.2.2 r11_.1 r12_.1 r12_.2.1 r12_.2.2.1 r12_.2.2.2.1) fun r15_ =>
 .t (!r15_)
 (.l false)
 (.c (Bool) (wab r6_.1 r6_.2.1 r6_.2.2.2.2.2.2.2.1 r6_.2.2.1) fun r16_ =>
 .c (Bool) (wpm r6_.1 r6_.2.1 r6_.2.2.2.2.2.2.2.1 r6_.2.2.1) fun r17_ =>
 .t (!(r16_ == r17_))
 (.l false)
 (.t r11_.2.2.1
 (.c (Bool) (wab r11_.2.2.2.1 r11_.2.2.2.2.1 r11_.2.2.2.2.2 r11_.1) fun r18_ =>
 .t (!r18_)
 (.l false)
 (.t (!r7_.2.1)
 (.l true)
 (.c (Bool) (wab r7_.2.2.1 r7_.2.2.2.1 r7_.2.2.2.2 r7_.1) fun r19_ =>
 .t (!r19_)
 (.l false)
 (.t (r7_.1 != (wrap .i64 (r6_.2.2.1 + 1)))
 (.l false)
 (.t (r6_.2.2.2.1 == 10)
 (.t (r6_.2.2.2.1 == 10)
 (.c Yap (wif r6_.1 r6_.2.1 r6_.2.2.2.2.2.2.2.1 r6_.2.2.1) fun r20_ =>
 .c Yap (wif r7_.2.2.1 r7_.2.2.2.1 r7_.2.2.2.2 r7_.1) fun r21_ =>
 .t r21_.2
 (.t (!r20_.2)
 (.l true)
 (.l (decide (r21_.1 ≤ r20_.1))))
 (.l false))
 (.t (r6_.2.2.2.1 == 6)
 (.c Yh (wcn r7_.2.2.1 r7_.2.2.2.1 r7_.2.2.2.2 r7_.1 (8 : Int) ((length r6_.1 : Nat) : Int) (0 : Int) (0 : Int) ([] : Y1)) fun r22_ =>
 .t (r7_.1 == 1000)
 (.l true)
 (.t r22_.2.1
 (.c (Bool) (wbj r22_.2.2.1 r22_.2.2.2.1 r6_.1 r6_.2.1) fun r23_ =>
 .t r23_
 (.c (Bool) (wai r22_.2.2.2.2 r6_.2.2.2.2.2.2.2.1) fun r24_ =>
 .l r24_)
 (.l false))
 (.l false)))
 (.t (r6_.2.2.2.1 == 7)
 (.c Yh (wcn r7_.2.2.1 r7_.2.2.2.1 r7_.2.2.2.2 r7_.1 (9 : Int) ((length r6_.2.1 : Nat) : Int) (0 : Int) (0 : Int) ([] : Y1)) fun r25_ =>
 .t (r7_.1 == 1000)
 (.l true)
 (.t r25_.2.1
 (.c (Bool) (wbj r25_.2.2.1 r25_.2.2.2.1 r6_.1 r6_.2.1) fun r26_ =>
 .l r26_)
 (.l false)))
 (.t (r6_.2.2.2.1 == 1)
 (.c Yh (wcn r7_.2.2.1 r7_.2.2.2.1 r7_.2.2.2.2 r7_.1 (2 : Int) r6_.2.2.2.2.1 (0 : Int) (0 : Int) ([] : Y1)) fun r27_ =>
 .t (r7_.1 == 1000)
 (.l true)
 (.t r27_.2.1
 (.c (Bool) (wai r27_.2.2.2.2 r6_.2.2.2.2.2.2.2.1) fun r28_ =>
 .l r28_)
 (.l false)))
 (.l true)))))
 (.t (r6_.2.2.2.1 == 11)
 (.c Yap (wif r6_.1 r6_.2.1 r6_.2.2.2.2.2.2.2.1 r6_.2.2.1) fun r29_ =>
 .c Yap (wif r7_.2.2.1 r7_.2.2.2.1 r7_.2.2.2.2 r7_.1) fun r30_ =>
 .t r30_.2
 (.t (!r29_.2)
 (.l true)
 (.l (decide (r30_.1 ≤ r29_.1))))
 (.l false))
 (.t (r6_.2.2.2.1 == 6)
 (.c Yh (wcn r7_.2.2.1 r7_.2.2.2.1 r7_.2.2.2.2 r7_.1 (8 : Int) ((length r6_.1 : Nat) : Int) (0 : Int) (0 : Int) ([] : Y1)) fun r31_ =>
 .t (r7_.1 == 1000)
 (.l true)
 (.t r31_.2.1
 (.c (Bool) (wbj r31_.2.2.1 r31_.2.2.2.1 r6_.1 r6_.2.1) fun r32_ =>
 .t r32_
 (.c (Bool) (wai r31_.2.2.2.2 r6_.2.2.2.2.2.2.2.1) fun r33_ =>
 .l r33_)
 (.l false))
 (.l false)))
 (.t (r6_.2.2.2.1 == 7)
 (.c Yh (wcn r7_.2.2.1 r7_.2.2.2.1 r7_.2.2.2.2 r7_.1 (9 : Int) ((length r6_.2.1 : Nat) : Int) (0 : Int) (0 : Int) ([] : Y1)) fun r34_ =>
 .t (r7_.1 == 1000)
 (.l true)
 (.t r34_.2.1
 (.c (Bool) (wbj r34_.2.2.1 r34_.2.2.2.1 r6_.1 r6_.2.1) fun r35_ =>
 .l r35_)
 (.l false)))
 (.t (r6_.2.2.2.1 == 1)
 (.c Yh (wcn r7_.2.2.1 r7_.2.2.2.1 r7_.2.2.2.2 r7_.1 (2 : Int) r6_.2.2.2.2.1 (0 : Int) (0 : Int) ([] : Y1)) fun r36_ =>
 .t (r7_.1 == 1000)
 (.l true)
 (.t r36_.2.1
 (.c (Bool) (wai r36_.2.2.2.2 r6_.2.2.2.2.2.2.2.1) fun r37_ =>
 .l r37_)
 (.l false)))
 (.l true))))))))))
 (.t (!r7_.2.1)
 (.l true)
 (.c (Bool) (wab r7_.2.2.1 r7_.2.2.2.1 r7_.2.2.2.2 r7_.1) fun r38_ =>
 .t (!r38_)
 (.l false)
 (.t (r7_.1 != (wrap .i64 (r6_.2.2.1 + 1)))
 (.l false)
 (.t (r6_.2.2.2.1 == 10)
 (.t (r6_.2.2.2.1 == 10)
 (.c Yap (wif r6_.1 r6_.2.1 r6_.2.2.2.2.2.2.2.1 r6_.2.2.1) fun r39_ =>
 .c Yap (wif r7_.2.2.1 r7_.2.2.2.1 r7_.2.2.2.2 r7_.1) fun r40_ =>
 .t r40_.2
 (.t (!r39_.2)
 (.l true)
 (.l (decide (r40_.1 ≤ r39_.1))))
 (.l false))
 (.t (r6_.2.2.2.1 == 6)
 (.c Yh (wcn r7_.2.2.1 r7_.2.2.2.1 r7_.2.2.2.2 r7_.1 (8 : Int) ((length r6_.1 : Nat) : Int) (0 : Int) (0 : Int) ([] : Y1)) fun r41_ =>
 .t (r7_.1 == 1000)
 (.l true)
 (.t r41_.2.1
 (.c (Bool) (wbj r41_.2.2.1 r41_.2.2.2.1 r6_.1 r6_.2.1) fun r42_ =>
 .t r42_
 (.c (Bool) (wai r41_.2.2.2.2 r6_.2.2.2.2.2.2.2.1) fun r43_ =>
 .l r43_)
 (.l false))
 (.l false)))
 (.t (r6_.2.2.2.1 == 7)
 (.c Yh (wcn r7_.2.2.1 r7_.2.2.2.1 r7_.2.2.2.2 r7_.1 (9 : Int) ((length r6_.2.1 : Nat) : Int) (0 : Int) (0 : Int) ([] : Y1)) fun r44_ =>
 .t (r7_.1 == 1000)
 (.l true)
 (.t r44_.2.1
 (.c (Bool) (wbj r44_.2.2.1 r44_.2.2.2.1 r6_.1 r6_.2.1) fun r45_ =>
 .l r45_)
 (.l false)))
 (.t (r6_.2.2.2.1 == 1)
 (.c Yh (wcn r7_.2.2.1 r7_.2.2.2.1 r7_.2.2.2.2 r7_.1 (2 : Int) r6_.2.2.2.2.1 (0 : Int) (0 : Int) ([] : Y1)) fun r46_ =>
 .t (r7_.1 == 1000)
 (.l true)
 (.t r46_.2.1
 (.c (Bool) (wai r46_.2.2.2.2 r6_.2.2.2.2.2.2.2.1) fun r47_ =>
 .l r47_)
 (.l false)))
 (.l true)))))
 (.t (r6_.2.2.2.1 == 11)
 (.c Yap (wif r6_.1 r6_.2.1 r6_.2.2.2.2.2.2.2.1 r6_.2.2.1) fun r48_ =>
 .c Yap (wif r7_.2.2.1 r7_.2.2.2.1 r7_.2.2.2.2 r7_.1) fun r49_ =>
 .t r49_.2
 (.t (!r48_.2)
 (.l true)
 (.l (decide (r49_.1 ≤ r48_.1))))
 (.l false))
 (.t (r6_.2.2.2.1 == 6)
 (.c Yh (wcn r7_.2.2.1 r7_.2.2.2.1 r7_.2.2.2.2 r7_.1 (8 : Int) ((length r6_.1 : Nat) : Int) (0 : Int) (0 : Int) ([] : Y1)) fun r50_ =>
 .t (r7_.1 == 1000)
 (.l true)
 (.t r50_.2.1
 (.c (Bool) (wbj r50_.2.2.1 r50_.2.2.2.1 r6_.1 r6_.2.1) fun r51_ =>
 .t r51_
 (.c (Bool) (wai r50_.2.2.2.2 r6_.2.2.2.2.2.2.2.1) fun r52_ =>
 .l r52_)
 (.l false))
 (.l false)))
 (.t (r6_.2.2.2.1 == 7)
 (.c Yh (wcn r7_.2.2.1 r7_.2.2.2.1 r7_.2.2.2.2 r7_.1 (9 : Int) ((length r6_.2.1 : Nat) : Int) (0 : Int) (0 : Int) ([] : Y1)) fun r53_ =>
 .t (r7_.1 == 1000)
 (.l true)
 (.t r53_.2.1
 (.c (Bool) (wbj r53_.2.2.1 r53_.2.2.2.1 r6_.1 r6_.2.1) fun r54_ =>
 .l r54_)
 (.l false)))
 (.t (r6_.2.2.2.1 == 1)
 (.c Yh (wcn r7_.2.2.1 r7_.2.2.2.1 r7_.2.2.2.2 r7_.1 (2 : Int) r6_.2.2.2.2.1 (0 : Int) (0 : Int) ([] : Y1)) fun r55_ =>
 .t (r7_.1 == 1000)
 (.l true)
 (.t r55_.2.1
 (.c (Bool) (wai r55_.2.2.2.2 r6_.2.2.2.2.2.2.2.1) fun r56_ =>
 .l r56_)
 (.l false)))
 (.l true))))))))))))))))))
noncomputable def wabk (a1_ : Y1) : Option (Bool) := (wabj a1_).ev
noncomputable def wapw : RetK := yr [.tmp 2] Zp
noncomputable def wabl : FD := yd (yj [.dat Zab]) [] [] Bool (fun x => wabk x.1.1) (fun r => ([.dat .bool r], []))
noncomputable def wapx : Nat → Nat → List Nat := fun r i => match look [(6, [(2, [48])]), (9, [(2, [66])]), (11, [(2, [78, 79])])] r with
 | some l => (look l i).getD []
 | none => []
end Go.Proofs.YtnagpmhaddfgmaaGreat
