import Derived.Test.YtnagpmhaddfgmaaGreatC4
import Derived.Test.YtnagpmhaddfgmaaGreatProg
namespace Go.Proofs.YtnagpmhaddfgmaaGreat
open Go.Proofs.Tryz
open List (length getD set)
open Int (toNat)
open IntKind (wrap)
noncomputable def T_zm (a1_ : Y1) (a2_ : List Y1) (a3_ : Int) (a4_ : Int) : Tr (Bool) :=
 .c (Bool) (F_zw a2_ a3_ a1_ a4_) fun r1_ =>
 .l r1_
noncomputable def F_zm (a1_ : Y1) (a2_ : List Y1) (a3_ : Int) (a4_ : Int) : Option (Bool) := (T_zm a1_ a2_ a3_ a4_).ev
noncomputable def K_zm : RetK := yr [.tmp 5] (yj [.dat .bool])
noncomputable def D_zm : FD := yd (yj [.dat y1, .ptr (yj [.dat y2]), .ptr (yj [.dat yi]), .ptr (yj [.dat yi])]) [] [] Bool (fun x => F_zm x.1.1 x.1.2.1.1 x.1.2.2.1.1 x.1.2.2.2.1.1) (fun r => ([.dat .bool r], []))
noncomputable def wvi (k : Int × (Y2 × Int)) (v : Int × Y2) : Tr ((Int × Y2) ⊕ Y2) :=
 .t (decide (v.1 < k.1))
 (.c (Int) (waki v.2 (fun h8_ => Option.bind (F_zm h8_.1 k.2.1 v.1 k.2.2) fun y9_ => some y9_)) fun r10_ =>
 .t (decide (r10_ < 0))
 (.g (decide ((length v.2 + 1) * 24 ≤ 140737488355328)) <|
 .l (.inl ((wrap .i64 (v.1 + 1)), (set (v.2 ++ [[]]) (length v.2) ([v.1] : Y1)))))
 (.g (inR r10_ (length v.2)) <|
 .g (decide ((toNat r10_) < length v.2)) <|
 .g (decide ((length (getD v.2 (toNat r10_) ([] : Y1)) + length ([v.1] : Y1)) * 8 ≤ 140737488355328)) <|
 .g (inR r10_ (length v.2)) <|
 .g (decide ((toNat r10_) < length v.2) && decide ((toNat r10_) = (toNat r10_))) <|
 .l (.inl ((wrap .i64 (v.1 + 1)), (set v.2 (toNat r10_) ((getD v.2 (toNat r10_) ([] : Y1)) ++ ([v.1] : Y1)))))))
 (.l (.inr v.2))
noncomputable def wazo (k : Int × (Y2 × Int)) (v : Int × Y2) : Option Y2 := iter (fun v => (wvi k v).ev) v
noncomputable def wanj : LD := ⟨{ acts := [], S := { slots := [2, 3, 6, 19, 20], sh := (yj [.box 2 0, .box 3 0, .arr 17, .dat yi, .dat yi]), obs := [(2, .cells (yj [.dat y2])), (3, .cells (yj [.dat yi])), (17, .rows 24 3 yi)] } }, [(0, { acts := [], S := { slots := [6], sh := (yj [.arr 17]), obs := [(17, .rows 24 3 yi)] } })], (yh [] .nil), Int × (Y2 × Int), Int × Y2, List Y1, fun k v => (((), ((), ((), (k.1, (v.1, ()))))), ((k.2.1, ()), ((k.2.2, ()), (v.2, ())))), fun t => (t.1.2.2.2.1, (t.2.1.1, t.2.2.1.1)), fun t => (t.1.2.2.2.2.1, t.2.2.2.1), wvi, fun _ r => .l (.exit 0 (wal ({ slots := [6], sh := (yj [.arr 17]), obs := [(17, .rows 24 3 yi)] }) (((), ()), (r, ()))))⟩
noncomputable def T_zl (a1_ : List Y1) (a2_ : Int) : Tr (Bool × Y2) :=
 .c (Bool) (F_zj a1_) fun r1_ =>
 .t (!r1_)
 (.l (false, ([] : List Y1)))
 (.c (Bool) (F_zt a2_ (1 : Int) (100 : Int)) fun r2_ =>
 .t (!r2_)
 (.l (false, ([] : List Y1)))
 (.c Y2 (wazo (((length a1_ : Nat) : Int), (a1_, a2_)) ((0 : Int), ([] : List Y1))) fun r12_ =>
 .l (true, r12_)))
noncomputable def F_zl (a1_ : List Y1) (a2_ : Int) : Option (Bool × Y2) := (T_zl a1_ a2_).ev
noncomputable def K_zl : RetK := { acts := [.ownR 4 0 24 3 yi, .ren 17 0], res := [.tmp 4, .tmp 5], sh := (yj [.arr 0, .dat .bool]), obs := [(0, .rows 24 3 yi)], pins := [] }
noncomputable def D_zl : FD := yd (yj [.dat y2, .dat yi]) [] [] (Bool × Y2) (fun x => F_zl x.1.1 x.1.2.1) (fun r => ([.arr 0, .dat .bool r.1], [(0, .rows 24 3 yi r.2 none)]))
def Z_zl : Nat → Nat → List Nat := fun r i => match look [(3, [(0, [1000000])])] r with
 | some l => (look l i).getD []
 | none => []
noncomputable def E_zl : Env := wab [(30, D_zj), (104, D_zt), (131, wakj), (131, wakj), (132, D_zm)]
noncomputable def O_zl : List (Nat × LD) := [(0, wanj)]
noncomputable def C_zl : Code := (f38.body).getD .skip
noncomputable def woj (k : Y2 × Y2) (v : Int) : Tr ((Int) ⊕ ((Unit) ⊕ (Unit))) :=
 .t (decide (v < ((length k.1 : Nat) : Int)))
 (.g (inR v (length k.1)) <|
 .g (inR v (length k.2)) <|
 .c (Bool) (wafw (getD k.1 (toNat v) ([] : Y1)) (getD k.2 (toNat v) ([] : Y1))) fun r4_ =>
 .t (!r4_)
 (.l (.inr (.inr ())))
 (.l (.inl (wrap .i64 (v + 1)))))
 (.l (.inr (.inl ())))
noncomputable def wank (k : Y2 × Y2) (v : Int) : Option ((Unit) ⊕ (Unit)) := iter (fun v => (woj k v).ev) v
noncomputable def wado : LD := ⟨(yh [0, 1, 5] (yj [.dat y2, .dat y2, .dat yi])), [(0, (yh [] .nil))], (yh [4] (yj [.dat .bool])), Y2 × Y2, Int, (Unit) ⊕ (Unit), fun k v => ((k.1, (k.2, (v, ()))), ()), fun t => (t.1.1, t.1.2.1), fun t => t.1.2.2.1, woj, fun _ r => .s (Unit) (Unit) r (fun _ => .l (.exit 0 (wal ((ys [] .nil)) ((), ())))) (fun _ => .l (.ret (wal ((ys [4] (yj [.dat .bool]))) ((false, ()), ()))))⟩
noncomputable def wbic (a1_ : List Y1) (a2_ : List Y1) : Tr (Bool) :=
 .t (((length a1_ : Nat) : Int) != ((length a2_ : Nat) : Int))
 (.l false)
 (.c ((Unit) ⊕ (Unit)) (wank (a1_, a2_) (0 : Int)) fun r6_ =>
 .s (Unit) (Unit) r6_
 (fun _ => .l true)
 (fun _ => .l false))
noncomputable def wyo (a1_ : List Y1) (a2_ : List Y1) : Option (Bool) := (wbic a1_ a2_).ev
noncomputable def wcaf : RetK := yr [.tmp 4] (yj [.dat .bool])
noncomputable def wbid : FD := yd (yj [.dat y2, .dat y2]) [] [] Bool (fun x => wyo x.1.1 x.1.2.1) (fun r => ([.dat .bool r], []))
noncomputable def wbie : Env := wab [(19, wauj)]
noncomputable def wbif : List (Nat × LD) := [(0, wado)]
noncomputable def wavx : Code := (f15.body).getD .skip
noncomputable def wib (k : Int × (Bool × Y2)) (v : Int) : Tr ((Int) ⊕ ((Unit) ⊕ (Unit))) :=
 .t k.2.1
 (.t (decide (v ≤ ((length k.2.2 : Nat) : Int)))
 (.t (decide (v < 2))
 (.l (.inl (wrap .i64 (v + 1))))
 (.c (Bool × Y1) (F_ze k.2.2 v) fun r29_ =>
 .c (Int × (Bool)) (F_zg k.2.2 r29_.2) fun r30_ =>
 .t (!r29_.1)
 (.l (.inr (.inr ())))
 (.t (!r30_.2)
 (.l (.inr (.inr ())))
 (.t (decide (k.1 ≤ r30_.1))
 (.l (.inr (.inr ())))
 (.l (.inl (wrap .i64 (v + 1))))))))
 (.l (.inr (.inl ()))))
 (.l (.inr (.inl ())))
noncomputable def wok (k : Int × (Bool × Y2)) (v : Int) : Option ((Unit) ⊕ (Unit)) := iter (fun v => (wib k v).ev) v
noncomputable def wadp : LD := ⟨{ acts := [], S := { slots := [27, 29, 30, 40], sh := (yj [.arr 11776, .dat yi, .dat .bool, .dat yi]), obs := [(11776, .rows 24 3 yi)] } }, [(0, (yh [] .nil))], (yh [2] (yj [.dat .bool])), Int × (Bool × Y2), Int, (Unit) ⊕ (Unit), fun k v => (((), (k.1, (k.2.1, (v, ())))), (k.2.2, ())), fun t => (t.1.2.1, (t.1.2.2.1, t.2.1)), fun t => t.1.2.2.2.1, wib, fun _ r => .s (Unit) (Unit) r (fun _ => .l (.exit 0 (wal ((ys [] .nil)) ((), ())))) (fun _ => .l (.ret (wal ((ys [2] (yj [.dat .bool]))) ((false, ()), ()))))⟩
noncomputable def wbig (a1_ : Y1) : Tr (Bool) :=
 .c (Bool) (wbbv a1_) fun r1_ =>
 .t r1_
 (.l true)
 (.c (Int × Y2) (wasb a1_) fun r2_ =>
 .c (Bool × Y1) (F_ze r2_.2 r2_.1) fun r3_ =>
 .c (Y1 × (Bool)) (wauh r2_.2 r2_.1) fun r4_ =>
 .t (!(r3_.1 == r4_.2))
 (.l false)
 (.c (Bool) (wafw r3_.2 r4_.1) fun r5_ =>
 .t (!r5_)
 (.l false)
 (.c (Bool × Y1) (F_zh r2_.2 r2_.1) fun r6_ =>
 .c (Bool × Y1) (waur r2_.2 r2_.1) fun r7_ =>
 .t (!(r6_.1 == r7_.1))
 (.l false)
 (.t (!(r6_.1 == r3_.1))
 (.l false)
 (.c (Bool) (wafw r6_.2 r7_.2) fun r8_ =>
 .t (!r8_)
 (.l false)
 (.c (Bool × (Bool)) (F_zk r2_.2) fun r9_ =>
 .c (Bool × (Bool)) (waut r2_.2) fun r10_ =>
 .t (!(r9_.1 == r10_.1))
 (.l false)
 (.t (!(r9_.2 == r10_.2))
 (.l false)
 (.c (Bool) (F_zj r2_.2) fun r11_ =>
 .t (!(r9_.2 == r11_))
 (.l false)
 (.t r3_.1
 (.c (Int × (Bool)) (F_zg r2_.2 r3_.2) fun r12_ =>
 .c Y1 (wauw r6_.2) fun r13_ =>
 .c (Int × (Bool)) (F_zg r2_.2 r13_) fun r14_ =>
 .t (!r12_.2)
 (.l false)
 (.t (!r14_.2)
 (.l false)
 (.t (decide (r12_.1 < r14_.1))
 (.l false)
 (.t r9_.1
 (.t (decide ((wrap .i64 ((2 : Int) * r14_.1)) < r12_.1))
 (.l false)
 (.c (Y2 × Y1) (wyh a1_) fun r15_ =>
 .c (Int × (Bool)) (F_zg r15_.1 r15_.2) fun r16_ =>
 .c (Int × (Bool)) (wyi r15_.1 r15_.2) fun r17_ =>
 .t (r16_.1 != r17_.1)
 (.l false)
 (.t (!(r16_.2 == r17_.2))
 (.l false)
 (.c (Int × (Y2 × Y2)) (wyk a1_) fun r18_ =>
 .c (Bool × (Bool)) (F_zn r18_.2.1 r18_.2.2 r18_.1) fun r19_ =>
 .c (Bool × (Bool)) (wvg r18_.2.1 r18_.2.2 r18_.1) fun r20_ =>
 .t (!(r19_.1 == r20_.1))
 (.l false)
 (.t (!(r19_.2 == r20_.2))
 (.l false)
 (.t (!r19_.2)
 (.l true)
 (.c (Bool × Y2) (F_zl r18_.2.1 r18_.1) fun r21_ =>
 .c (Bool × Y2) (wro r18_.2.1 r18_.1) fun r22_ =>
 .t (!r21_.1)
 (.l false)
 (.t (!r22_.1)
 (.l false)
 (.c (Bool) (wyo r21_.2 r22_.2) fun r23_ =>
 .t (!r23_)
 (.l false)
 (.c (Bool × (Bool)) (F_zn r18_.2.1 r21_.2 r18_.1) fun r24_ =>
 .t (!r24_.2)
 (.l false)
 (.t (!r24_.1)
 (.l false)
 (.c ((Unit) ⊕ (Unit)) (wok (r18_.1, (r19_.1, r18_.2.1)) (wrap .i64 (((length r18_.2.2 : Nat) : Int) + 1))) fun r32_ =>
 .s (Unit) (Unit) r32_
 (fun _ => .l true)
 (fun _ => .l false)))))))))))))
 (.c (Y2 × Y1) (wyh a1_) fun r35_ =>
 .c (Int × (Bool)) (F_zg r35_.1 r35_.2) fun r36_ =>
 .c (Int × (Bool)) (wyi r35_.1 r35_.2) fun r37_ =>
 .t (r36_.1 != r37_.1)
 (.l false)
 (.t (!(r36_.2 == r37_.2))
 (.l false)
 (.c (Int × (Y2 × Y2)) (wyk a1_) fun r38_ =>
 .c (Bool × (Bool)) (F_zn r38_.2.1 r38_.2.2 r38_.1) fun r39_ =>
 .c (Bool × (Bool)) (wvg r38_.2.1 r38_.2.2 r38_.1) fun r40_ =>
 .t (!(r39_.1 == r40_.1))
 (.l false)
 (.t (!(r39_.2 == r40_.2))
 (.l false)
 (.t (!r39_.2)
 (.l true)
 (.c (Bool × Y2) (F_zl r38_.2.1 r38_.1) fun r41_ =>
 .c (Bool × Y2) (wro r38_.2.1 r38_.1) fun r42_ =>
 .t (!r41_.1)
 (.l false)
 (.t (!r42_.1)
 (.l false)
 (.c (Bool) (wyo r41_.2 r42_.2) fun r43_ =>
 .t (!r43_)
 (.l false)
 (.c (Bool × (Bool)) (F_zn r38_.2.1 r41_.2 r38_.1) fun r44_ =>
 .t (!r44_.2)
 (.l false)
 (.t (!r44_.1)
 (.l false)
 (.c ((Unit) ⊕ (Unit)) (wok (r38_.1, (r39_.1, r38_.2.1)) (wrap .i64 (((length r38_.2.2 : Nat) : Int) + 1))) fun r45_ =>
 .s (Unit) (Unit) r45_
 (fun _ => .l true)
 (fun _ => .l false))))))))))))))))
 (.c (Y2 × Y1) (wyh a1_) fun r48_ =>
 .c (Int × (Bool)) (F_zg r48_.1 r48_.2) fun r49_ =>
 .c (Int × (Bool)) (wyi r48_.1 r48_.2) fun r50_ =>
 .t (r49_.1 != r50_.1)
 (.l false)
 (.t (!(r49_.2 == r50_.2))
 (.l false)
 (.c (Int × (Y2 × Y2)) (wyk a1_) fun r51_ =>
 .c (Bool × (Bool)) (F_zn r51_.2.1 r51_.2.2 r51_.1) fun r52_ =>
 .c (Bool × (Bool)) (wvg r51_.2.1 r51_.2.2 r51_.1) fun r53_ =>
 .t (!(r52_.1 == r53_.1))
 (.l false)
 (.t (!(r52_.2 == r53_.2))
 (.l false)
 (.t (!r52_.2)
 (.l true)
 (.c (Bool × Y2) (F_zl r51_.2.1 r51_.1) fun r54_ =>
 .c (Bool × Y2) (wro r51_.2.1 r51_.1) fun r55_ =>
 .t (!r54_.1)
 (.l false)
 (.t (!r55_.1)
 (.l false)
 (.c (Bool) (wyo r54_.2 r55_.2) fun r56_ =>
 .t (!r56_)
 (.l false)
 (.c (Bool × (Bool)) (F_zn r51_.2.1 r54_.2 r51_.1) fun r57_ =>
 .t (!r57_.2)
 (.l false)
 (.t (!r57_.1)
 (.l false)
 (.c ((Unit) ⊕ (Unit)) (wok (r51_.1, (r52_.1, r51_.2.1)) (wrap .i64 (((length r51_.2.2 : Nat) : Int) + 1))) fun r58_ =>
 .s (Unit) (Unit) r58_
 (fun _ => .l true)
 (fun _ => .l false)))))))))))))))))))))
noncomputable def wbih (a1_ : Y1) : Option (Bool) := (wbig a1_).ev
noncomputable def wcag : RetK := yr [.tmp 2] (yj [.dat .bool])
noncomputable def wbii : FD := yd (yj [.dat (.slice (.int .u8))]) [] [] Bool (fun x => wbih x.1.1) (fun r => ([.dat .bool r], []))
noncomputable def wbij : Nat → Nat → List Nat := fun r i => match look [(5, [(2, [59])])] r with
 | some l => (look l i).getD []
 | none => []
noncomputable def wbik : Env := wab [(9, wbbw), (23, wbch), (24, D_ze), (25, wbeh), (19, wauj), (26, D_zh), (27, wbfb), (28, D_zk), (29, wbff), (30, D_zj), (31, D_zg), (32, wbfl), (33, wbfp), (34, wbfv), (35, wbga), (36, D_zn), (37, wbia), (38, D_zl), (39, wavd), (15, wbid)]
noncomputable def wbil : List (Nat × LD) := [(0, wadp)]
noncomputable def wavy : Code := (f4.body).getD .skip
end Go.Proofs.YtnagpmhaddfgmaaGreat
