import Derived.Test.YtnagpmhaddfgmaaGreatB37
import Derived.Test.YtnagpmhaddfgmaaGreatB43
import Derived.Test.YtnagpmhaddfgmaaGreatProg
namespace Go.Proofs.YtnagpmhaddfgmaaGreat
open Go.Proofs.Tryz
open List (length getD set)
open Int (toNat)
open IntKind (wrap)
abbrev yi : Ty := .int .i64
abbrev y1 : Ty := .slice yi
abbrev y2 : Ty := .slice y1
abbrev y3 : Ty := .slice y2
abbrev Y1 : Type := List Int
abbrev Y2 : Type := List Y1
abbrev Y3 : Type := List Y2
abbrev yh (l : List Nat) (s : Sh) : Keep := { acts := [], S := { slots := l, sh := s, obs := [] } }
abbrev ys (l : List Nat) (s : Sh) : SSh := { slots := l, sh := s, obs := [] }
abbrev yd (A : Sh) (I : List (Nat × OSh)) (L : List LP) (R : Type) (F : A.I × OL I → Option R) (e : R → List AV × List (Nat × Ob)) : FD := { A := A, ins := I, lend := L, R := R, F := F, emb := e }
abbrev yr (r : List ResultVar) (s : Sh) : RetK := { acts := [], res := r, sh := s, obs := [], pins := [] }
abbrev yj : List Sh → Sh
  | [] => .nil
  | a :: l => .cons a (yj l)
noncomputable def tabl : List (Nat × TD) := [(3, .sc yi), (4, .sc .bool), (5, .sc (.int .u8)), (9, .sc .str), (24, .sl 3 yi 8), (25, .sl 24 y1 24), (27, .st (.pair y1 y2) [(24, y1), (25, y2)]), (60, .st (.pair y1 y2) [(24, y1), (25, y2)]), (62, .st (.pair (.pair y1 y2) (.pair y1 yi)) [(60, (.pair y1 y2)), (24, y1), (3, yi)]), (64, .st (.pair yi (.pair yi (.pair yi (.pair yi y1)))) [(3, yi), (3, yi), (3, yi), (3, yi), (24, y1)]), (68, .st (.pair (.pair y1 y2) (.pair y1 yi)) [(27, (.pair y1 y2)), (24, y1), (3, yi)]), (72, .st (.pair yi (.pair yi (.pair yi (.pair yi y1)))) [(3, yi), (3, yi), (3, yi), (3, yi), (24, y1)]), (108, .sc (.int .u64)), (145, .sc (.int .u64)), (220, .sc (.int .u64))]
noncomputable def tt : Nat → TD := fun i => match look tabl i with
 | some d => d
 | none => .no
noncomputable def wayq (a1_ : Y1) (a2_ : Int) : Tr (Int) :=
 .t (decide ((wrap .i64 (a2_ - ((length a1_ : Nat) : Int))) < (0 : Int)))
 (.l (-1 : Int))
 (.l (wrap .i64 (a2_ - ((length a1_ : Nat) : Int))))
noncomputable def wup (a1_ : Y1) (a2_ : Int) : Option (Int) := (wayq a1_ a2_).ev
noncomputable def wbtq : RetK := yr [.tmp 4] (yj [.dat yi])
noncomputable def waek : FD := yd (yj [.dat y1, .dat yi]) [] [] Int (fun x => wup x.1.1 x.1.2.1) (fun r => ([.dat yi r], []))
noncomputable def wmo (k : List Y1) (v : Int × Int) : Tr ((Int × Int) ⊕ ((Int) ⊕ (Unit))) :=
 .t (decide (v.2 < ((length k : Nat) : Int)))
 (.g (inR v.2 (length k)) <|
 .c (Int) (wup (getD k (toNat v.2) ([] : Y1)) v.1) fun r4_ =>
 .t (decide (r4_ < 0))
 (.l (.inr (.inr ())))
 (.l (.inl (r4_, (wrap .i64 (v.2 + 1))))))
 (.l (.inr (.inl v.1)))
noncomputable def wxo (k : List Y1) (v : Int × Int) : Option ((Int) ⊕ (Unit)) := iter (fun v => (wmo k v).ev) v
noncomputable def waak : LD := ⟨(yh [0, 1, 5] (yj [.dat y2, .dat yi, .dat yi])), [(0, (yh [1] (yj [.dat yi])))], (yh [4] (yj [.dat yi])), List Y1, Int × (Int), (Int) ⊕ (Unit), fun k v => ((k, (v.1, (v.2, ()))), ()), fun t => t.1.1, fun t => (t.1.2.1, t.1.2.2.1), wmo, fun _ r => .s (Int) (Unit) r (fun a => .l (.exit 0 (wbd ((ys [1] (yj [.dat yi]))) ((a, ()), ())))) (fun _ => .l (.ret (wbd ((ys [4] (yj [.dat yi]))) (((-1 : Int), ()), ()))))⟩
noncomputable def wayr (a1_ : List Y1) (a2_ : Int) : Tr (Int) :=
 .t (decide ((wrap .i64 (a2_ - ((length a1_ : Nat) : Int))) < (0 : Int)))
 (.l (-1 : Int))
 (.c ((Int) ⊕ (Unit)) (wxo a1_ ((wrap .i64 (a2_ - ((length a1_ : Nat) : Int))), (0 : Int))) fun r7_ =>
 .s (Int) (Unit) r7_
 (fun r8_ => .l r8_)
 (fun _ => .l (-1 : Int)))
noncomputable def wapk (a1_ : List Y1) (a2_ : Int) : Option (Int) := (wayr a1_ a2_).ev
noncomputable def wbtr : RetK := yr [.tmp 4] (yj [.dat yi])
noncomputable def wayt : FD := yd (yj [.dat y2, .dat yi]) [] [] Int (fun x => wapk x.1.1 x.1.2.1) (fun r => ([.dat yi r], []))
noncomputable def wayu : Env := waa [(134, waek)]
noncomputable def wayv : List (Nat × LD) := [(0, waak)]
noncomputable def wayw : Code := (f208.body).getD .skip
noncomputable def wayx (a1_ : Y1) (a2_ : List Y1) (a3_ : Int) : Tr (Int) :=
 .c (Int) (wup a1_ a3_) fun r1_ =>
 .t (decide (r1_ < 0))
 (.l (-1 : Int))
 (.c (Int) (wapk a2_ r1_) fun r2_ =>
 .t (decide (r2_ < 0))
 (.l (-1 : Int))
 (.l r2_))
noncomputable def wapl (a1_ : Y1) (a2_ : List Y1) (a3_ : Int) : Option (Int) := (wayx a1_ a2_ a3_).ev
noncomputable def wbts : RetK := yr [.tmp 4] (yj [.dat yi])
noncomputable def wayy : FD := yd (yj [.agg (yj [.dat y1, .dat y2]), .dat yi]) [] [] Int (fun x => wapl x.1.1.1 x.1.1.2.1 x.1.2.1) (fun r => ([.dat yi r], []))
noncomputable def wayz (a1_ : Y1) (a2_ : List Y1) (a3_ : Y1) (_a4_ : Int) (a5_ : Int) : Tr (Int) :=
 .c (Int) (wapl a1_ a2_ a5_) fun r1_ =>
 .t (decide (r1_ < 0))
 (.l (-1 : Int))
 (.c (Int) (wup a3_ r1_) fun r2_ =>
 .t (decide (r2_ < 0))
 (.l (-1 : Int))
 (.l r2_))
noncomputable def wapm (a1_ : Y1) (a2_ : List Y1) (a3_ : Y1) (a4_ : Int) (a5_ : Int) : Option (Int) := (wayz a1_ a2_ a3_ a4_ a5_).ev
noncomputable def wbtt : RetK := yr [.tmp 4] (yj [.dat yi])
noncomputable def waza : FD := yd (yj [.agg (yj [.dat y1, .dat y2, .dat y1, .dat yi]), .dat yi]) [] [] Int (fun x => wapm x.1.1.1 x.1.1.2.1 x.1.1.2.2.1 x.1.1.2.2.2.1 x.1.2.1) (fun r => ([.dat yi r], []))
noncomputable def wapn (_a1_ : Int) (_a2_ : Int) (_a3_ : Int) (_a4_ : Int) (a5_ : Y1) (a6_ : Int) : Tr (Int) :=
 .c (Int) (wup a5_ a6_) fun r1_ =>
 .t (decide (r1_ < 0))
 (.l (-1 : Int))
 (.l r1_)
noncomputable def wael (a1_ : Int) (a2_ : Int) (a3_ : Int) (a4_ : Int) (a5_ : Y1) (a6_ : Int) : Option (Int) := (wapn a1_ a2_ a3_ a4_ a5_ a6_).ev
noncomputable def wbtu : RetK := yr [.tmp 4] (yj [.dat yi])
noncomputable def wazb : FD := yd (yj [.agg (yj [.dat yi, .dat yi, .dat yi, .dat yi, .dat y1]), .dat yi]) [] [] Int (fun x => wael x.1.1.1 x.1.1.2.1 x.1.1.2.2.1 x.1.1.2.2.2.1 x.1.1.2.2.2.2.1 x.1.2.1) (fun r => ([.dat yi r], []))
noncomputable def wmp (k : Y1) (v : Int × Y1) : Tr ((Int × Y1) ⊕ Y1) :=
 .t (decide (v.1 < ((length k : Nat) : Int)))
 (.g (inR v.1 (length k)) <|
 .g (inR v.1 (length v.2)) <|
 .g (decide ((toNat v.1) < length v.2)) <|
 .l (.inl ((wrap .i64 (v.1 + 1)), (set v.2 (toNat v.1) (getD k (toNat v.1) 0)))))
 (.l (.inr v.2))
noncomputable def waim (k : Y1) (v : Int × Y1) : Option Y1 := iter (fun v => (wmp k v).ev) v
noncomputable def waal : LD := ⟨{ acts := [], S := { slots := [0, 3, 4], sh := (yj [.dat y1, .arr 7, .dat yi]), obs := [(7, .arr 3 yi)] } }, [(0, { acts := [], S := { slots := [3], sh := (yj [.arr 7]), obs := [(7, .arr 3 yi)] } })], (yh [] .nil), Y1, Int × Y1, Y1, fun k v => ((k, ((), (v.1, ()))), (v.2, ())), fun t => t.1.1, fun t => (t.1.2.2.1, t.2.1), wmp, fun _ r => .l (.exit 0 (wbd ({ slots := [3], sh := (yj [.arr 7]), obs := [(7, .arr 3 yi)] }) (((), ()), (r, ()))))⟩
noncomputable def wazc (a1_ : Y1) : Tr Y1 :=
 .g (decide ((0 : Int) ≤ ((length a1_ : Nat) : Int)) && decide (((length a1_ : Nat) : Int) ≤ ((length a1_ : Nat) : Int)) && decide (((8 : Nat) : Int) * ((length a1_ : Nat) : Int) ≤ 281474976710656)) <|
 .c Y1 (waim a1_ ((0 : Int), (List.replicate (toNat ((length a1_ : Nat) : Int)) (0 : Int)))) fun r5_ =>
 .l r5_
noncomputable def wxp (a1_ : Y1) : Option Y1 := (wazc a1_).ev
noncomputable def wbtv : RetK := { acts := [.ren 7 0], res := [.tmp 2], sh := (yj [.arr 0]), obs := [(0, .arr 3 yi)], pins := [] }
noncomputable def waem : FD := yd (yj [.dat y1]) [] [] Y1 (fun x => wxp x.1.1) (fun r => ([.arr 0], [(0, .arr 3 yi r)]))
noncomputable def wazd : Env := waa []
noncomputable def waze : List (Nat × LD) := [(0, waal)]
noncomputable def wazf : Code := (f138.body).getD .skip
noncomputable def wmq (k : List Y1) (v : Int × Y2) : Tr ((Int × Y2) ⊕ Y2) :=
 .t (decide (v.1 < ((length k : Nat) : Int)))
 (.g (inR v.1 (length k)) <|
 .c Y1 (wxp (getD k (toNat v.1) ([] : Y1))) fun r4_ =>
 .g (inR v.1 (length v.2)) <|
 .g (decide ((toNat v.1) < length v.2)) <|
 .l (.inl ((wrap .i64 (v.1 + 1)), (set v.2 (toNat v.1) r4_))))
 (.l (.inr v.2))
noncomputable def wain (k : List Y1) (v : Int × Y2) : Option Y2 := iter (fun v => (wmq k v).ev) v
noncomputable def waam : LD := ⟨{ acts := [], S := { slots := [0, 3, 4], sh := (yj [.dat y2, .arr 7, .dat yi]), obs := [(7, .rows 24 3 yi)] } }, [(0, { acts := [], S := { slots := [3], sh := (yj [.arr 7]), obs := [(7, .rows 24 3 yi)] } })], (yh [] .nil), List Y1, Int × Y2, List Y1, fun k v => ((k, ((), (v.1, ()))), (v.2, ())), fun t => t.1.1, fun t => (t.1.2.2.1, t.2.1), wmq, fun _ r => .l (.exit 0 (wbd ({ slots := [3], sh := (yj [.arr 7]), obs := [(7, .rows 24 3 yi)] }) (((), ()), (r, ()))))⟩
noncomputable def wazg (a1_ : List Y1) : Tr Y2 :=
 .g (decide ((0 : Int) ≤ ((length a1_ : Nat) : Int)) && decide (((length a1_ : Nat) : Int) ≤ ((length a1_ : Nat) : Int)) && decide (((24 : Nat) : Int) * ((length a1_ : Nat) : Int) ≤ 281474976710656)) <|
 .c Y2 (wain a1_ ((0 : Int), (List.replicate (toNat ((length a1_ : Nat) : Int)) ([] : Y1)))) fun r6_ =>
 .l r6_
noncomputable def wapo (a1_ : List Y1) : Option Y2 := (wazg a1_).ev
noncomputable def wbtw : RetK := { acts := [.ren 7 0], res := [.tmp 2], sh := (yj [.arr 0]), obs := [(0, .rows 24 3 yi)], pins := [] }
noncomputable def wazh : FD := yd (yj [.dat y2]) [] [] (List Y1) (fun x => wapo x.1.1) (fun r => ([.arr 0], [(0, .rows 24 3 yi r none)]))
noncomputable def wazi : Nat → Nat → List Nat := fun r i => match look [(1, [(2, [1000000])])] r with
 | some l => (look l i).getD []
 | none => []
noncomputable def wazj : Env := waa [(138, waem)]
noncomputable def wazk : List (Nat × LD) := [(0, waam)]
noncomputable def wazl : Code := (f212.body).getD .skip
noncomputable def wazm (a1_ : Y1) (a2_ : List Y1) : Tr (Y1 × Y2) :=
 .c Y1 (wxp a1_) fun r1_ =>
 .c Y2 (wapo a2_) fun r2_ =>
 .l (r1_, r2_)
noncomputable def wapp (a1_ : Y1) (a2_ : List Y1) : Option (Y1 × Y2) := (wazm a1_ a2_).ev
noncomputable def wbtx : RetK := { acts := [.ren 384 4, .ren 640 5], res := [.cell 2 27], sh := (yj [.agg (yj [.arr 4, .arr 5])]), obs := [(4, .arr 3 yi), (5, .rows 24 3 yi)], pins := [] }
noncomputable def wazn : FD := yd (yj [.agg (yj [.dat y1, .dat y2])]) [] [] (Y1 × Y2) (fun x => wapp x.1.1.1 x.1.1.2.1) (fun r => ([.agg [.arr 4, .arr 5]], [(4, .arr 3 yi r.1), (5, .rows 24 3 yi r.2 none)]))
noncomputable def wazo (a1_ : Y1) (a2_ : List Y1) (a3_ : Y1) (a4_ : Int) : Tr (Int × (Y1 × (Y2 × Y1))) :=
 .c (Y1 × Y2) (wapp a1_ a2_) fun r1_ =>
 .c Y1 (wxp a3_) fun r2_ =>
 .l (a4_, (r1_.1, (r1_.2, r2_)))
noncomputable def wxq (a1_ : Y1) (a2_ : List Y1) (a3_ : Y1) (a4_ : Int) : Option (Int × (Y1 × (Y2 × Y1))) := (wazo a1_ a2_ a3_ a4_).ev
noncomputable def wbty : RetK := { acts := [.ren 388 4, .ren 389 5, .ren 640 6], res := [.cell 2 68], sh := (yj [.agg (yj [.arr 4, .arr 5, .arr 6, .dat yi])]), obs := [(4, .arr 3 yi), (5, .rows 24 3 yi), (6, .arr 3 yi)], pins := [] }
noncomputable def wazp : FD := yd (yj [.agg (yj [.dat y1, .dat y2, .dat y1, .dat yi])]) [] [] (Int × (Y1 × (Y2 × Y1))) (fun x => wxq x.1.1.1 x.1.1.2.1 x.1.1.2.2.1 x.1.1.2.2.2.1) (fun r => ([.agg [.arr 4, .arr 5, .arr 6, .dat yi r.1]], [(4, .arr 3 yi r.2.1), (5, .rows 24 3 yi r.2.2.1 none), (6, .arr 3 yi r.2.2.2)]))
noncomputable def wazq (a1_ : Int) (a2_ : Int) (a3_ : Int) (a4_ : Int) (a5_ : Y1) : Tr (Int × (Int × (Int × (Int × Y1)))) :=
 .c Y1 (wxp a5_) fun r1_ =>
 .l (a1_, (a2_, (a3_, (a4_, r1_))))
noncomputable def wxr (a1_ : Int) (a2_ : Int) (a3_ : Int) (a4_ : Int) (a5_ : Y1) : Option (Int × (Int × (Int × (Int × Y1)))) := (wazq a1_ a2_ a3_ a4_ a5_).ev
noncomputable def wbtz : RetK := { acts := [.ren 1152 4], res := [.cell 2 72], sh := (yj [.agg (yj [.dat yi, .dat yi, .dat yi, .dat yi, .arr 4])]), obs := [(4, .arr 3 yi)], pins := [] }
noncomputable def wazr : FD := yd (yj [.agg (yj [.dat yi, .dat yi, .dat yi, .dat yi, .dat y1])]) [] [] (Int × (Int × (Int × (Int × Y1)))) (fun x => wxr x.1.1.1 x.1.1.2.1 x.1.1.2.2.1 x.1.1.2.2.2.1 x.1.1.2.2.2.2.1) (fun r => ([.agg [.dat yi r.1, .dat yi r.2.1, .dat yi r.2.2.1, .dat yi r.2.2.2.1, .arr 4]], [(4, .arr 3 yi r.2.2.2.2)]))
noncomputable def wazs (a1_ : Int) (a2_ : Int) (a3_ : Int) : Tr (Bool) :=
 .t (decide (a2_ ≤ a1_))
 (.l (decide (a1_ ≤ a3_)))
 (.l false)
noncomputable def wji (a1_ : Int) (a2_ : Int) (a3_ : Int) : Option (Bool) := (wazs a1_ a2_ a3_).ev
noncomputable def wbua : RetK := yr [.tmp 6] (yj [.dat .bool])
noncomputable def wuq : FD := yd (yj [.dat yi, .dat yi, .dat yi]) [] [] Bool (fun x => wji x.1.1 x.1.2.1 x.1.2.2.1) (fun r => ([.dat .bool r], []))
noncomputable def wmr (k : Y1 × (Int × Int)) (v : Int) : Tr ((Int) ⊕ ((Unit) ⊕ (Unit))) :=
 .t (decide (v < ((length k.1 : Nat) : Int)))
 (.g (inR v (length k.1)) <|
 .c (Bool) (wji (getD k.1 (toNat v) 0) (0 : Int) k.2.2) fun r5_ =>
 .t (!r5_)
 (.l (.inr (.inr ())))
 (.l (.inl (wrap .i64 (v + 1)))))
 (.l (.inr (.inl ())))
noncomputable def waio (k : Y1 × (Int × Int)) (v : Int) : Option ((Unit) ⊕ (Unit)) := iter (fun v => (wmr k v).ev) v
noncomputable def waan : LD := ⟨(yh [0, 1, 2, 7] (yj [.dat y1, .dat yi, .dat yi, .dat yi])), [(0, (yh [0, 1] (yj [.dat y1, .dat yi])))], (yh [6] (yj [.dat .bool])), Y1 × (Int × Int), Int, (Unit) ⊕ (Unit), fun k v => ((k.1, (k.2.1, (k.2.2, (v, ())))), ()), fun t => (t.1.1, (t.1.2.1, t.1.2.2.1)), fun t => t.1.2.2.2.1, wmr, fun k r => .s (Unit) (Unit) r (fun _ => .l (.exit 0 (wbd ((ys [0, 1] (yj [.dat y1, .dat yi]))) ((k.1, (k.2.1, ())), ())))) (fun _ => .l (.ret (wbd ((ys [6] (yj [.dat .bool]))) ((false, ()), ()))))⟩
noncomputable def wazt (a1_ : Y1) (a2_ : Int) (a3_ : Int) : Tr (Bool) :=
 .c ((Unit) ⊕ (Unit)) (waio (a1_, (a2_, a3_)) (0 : Int)) fun r9_ =>
 .s (Unit) (Unit) r9_
 (fun _ => .l (((length a1_ : Nat) : Int) == a2_))
 (fun _ => .l false)
noncomputable def waip (a1_ : Y1) (a2_ : Int) (a3_ : Int) : Option (Bool) := (wazt a1_ a2_ a3_).ev
noncomputable def wbub : RetK := yr [.tmp 6] (yj [.dat .bool])
noncomputable def wazu : FD := yd (yj [.dat y1, .dat yi, .dat yi]) [] [] Bool (fun x => waip x.1.1 x.1.2.1 x.1.2.2.1) (fun r => ([.dat .bool r], []))
noncomputable def wazv : Env := waa [(130, wuq)]
noncomputable def wazw : List (Nat × LD) := [(0, waan)]
noncomputable def wazx : Code := (f200.body).getD .skip
noncomputable def wms (k : Int × (Y1 × Y2)) (v : Int) : Tr ((Int) ⊕ ((Unit) ⊕ (Unit))) :=
 .t (decide (v < ((length k.2.2 : Nat) : Int)))
 (.g (inR v (length k.2.2)) <|
 .c (Bool) (waip (getD k.2.2 (toNat v) ([] : Y1)) k.1 (99 : Int)) fun r5_ =>
 .t (!r5_)
 (.l (.inr (.inr ())))
 (.l (.inl (wrap .i64 (v + 1)))))
 (.l (.inr (.inl ())))
noncomputable def waiq (k : Int × (Y1 × Y2)) (v : Int) : Option ((Unit) ⊕ (Unit)) := iter (fun v => (wms k v).ev) v
noncomputable def waao : LD := ⟨{ acts := [], S := { slots := [1, 3, 4], sh := (yj [.box 1 0, .dat yi, .dat yi]), obs := [(1, .cells (yj [.dat y1, .dat y2]))] } }, [(0, { acts := [], S := { slots := [1, 3], sh := (yj [.box 1 0, .dat yi]), obs := [(1, .cells (yj [.dat y1, .dat y2]))] } })], (yh [2] (yj [.dat .bool])), Int × (Y1 × Y2), Int, (Unit) ⊕ (Unit), fun k v => (((), (k.1, (v, ()))), ((k.2.1, (k.2.2, ())), ())), fun t => (t.1.2.1, (t.2.1.1, t.2.1.2.1)), fun t => t.1.2.2.1, wms, fun k r => .s (Unit) (Unit) r (fun _ => .l (.exit 0 (wbd ({ slots := [1, 3], sh := (yj [.box 1 0, .dat yi]), obs := [(1, .cells (yj [.dat y1, .dat y2]))] }) (((), (k.1, ())), ((k.2.1, (k.2.2, ())), ()))))) (fun _ => .l (.ret (wbd ((ys [2] (yj [.dat .bool]))) ((false, ()), ()))))⟩
noncomputable def wazy (a1_ : Y1) (a2_ : List Y1) : Tr (Bool) :=
 .c ((Unit) ⊕ (Unit)) (waiq (((length a1_ : Nat) : Int), (a1_, a2_)) (0 : Int)) fun r10_ =>
 .s (Unit) (Unit) r10_
 (fun _ => .c (Bool) (wji ((length a1_ : Nat) : Int) (1 : Int) (7 : Int)) fun r13_ =>
 .t r13_
 (.c (Bool) (waip a1_ ((length a1_ : Nat) : Int) (99 : Int)) fun r14_ =>
 .t r14_
 (.l (decide (((length a2_ : Nat) : Int) ≤ (7 : Int))))
 (.l false))
 (.l false))
 (fun _ => .l false)
noncomputable def wair (a1_ : Y1) (a2_ : List Y1) : Option (Bool) := (wazy a1_ a2_).ev
noncomputable def wbuc : RetK := yr [.tmp 2] (yj [.dat .bool])
noncomputable def wapq : FD := yd (yj [.agg (yj [.dat y1, .dat y2])]) [] [] Bool (fun x => wair x.1.1.1 x.1.1.2.1) (fun r => ([.dat .bool r], []))
noncomputable def wazz : Env := waa [(200, wazu), (130, wuq)]
noncomputable def wbaa : List (Nat × LD) := [(0, waao)]
noncomputable def wbab : Code := (f166.body).getD .skip
noncomputable def wjj (k : Y1 × (Int × Int)) (v : Int) : Tr ((Int) ⊕ ((Unit) ⊕ (Unit))) :=
 .t (decide (v < ((length k.1 : Nat) : Int)))
 (.g (inR v (length k.1)) <|
 .c (Bool) (wji (getD k.1 (toNat v) 0) k.2.1 k.2.2) fun r5_ =>
 .t (!r5_)
 (.l (.inr (.inr ())))
 (.t (decide (0 < v))
 (.g (inR (wrap .i64 (v - 1)) (length k.1)) <|
 .g (inR v (length k.1)) <|
 .t (decide ((getD k.1 (toNat v) 0) ≤ (getD k.1 (toNat (wrap .i64 (v - 1))) (0 : Int))))
 (.l (.inr (.inr ())))
 (.l (.inl (wrap .i64 (v + 1)))))
 (.l (.inl (wrap .i64 (v + 1))))))
 (.l (.inr (.inl ())))
noncomputable def wais (k : Y1 × (Int × Int)) (v : Int) : Option ((Unit) ⊕ (Unit)) := iter (fun v => (wjj k v).ev) v
noncomputable def waap : LD := ⟨(yh [0, 1, 2, 7] (yj [.dat y1, .dat yi, .dat yi, .dat yi])), [(0, (yh [] .nil))], (yh [6] (yj [.dat .bool])), Y1 × (Int × Int), Int, (Unit) ⊕ (Unit), fun k v => ((k.1, (k.2.1, (k.2.2, (v, ())))), ()), fun t => (t.1.1, (t.1.2.1, t.1.2.2.1)), fun t => t.1.2.2.2.1, wjj, fun _ r => .s (Unit) (Unit) r (fun _ => .l (.exit 0 (wbd ((ys [] .nil)) ((), ())))) (fun _ => .l (.ret (wbd ((ys [6] (yj [.dat .bool]))) ((false, ()), ()))))⟩
noncomputable def wbac (a1_ : Y1) (a2_ : Int) (a3_ : Int) : Tr (Bool) :=
 .c ((Unit) ⊕ (Unit)) (wais (a1_, (a2_, a3_)) (0 : Int)) fun r7_ =>
 .s (Unit) (Unit) r7_
 (fun _ => .l true)
 (fun _ => .l false)
noncomputable def wapr (a1_ : Y1) (a2_ : Int) (a3_ : Int) : Option (Bool) := (wbac a1_ a2_ a3_).ev
noncomputable def wbud : RetK := yr [.tmp 6] (yj [.dat .bool])
noncomputable def wbad : FD := yd (yj [.dat y1, .dat yi, .dat yi]) [] [] Bool (fun x => wapr x.1.1 x.1.2.1 x.1.2.2.1) (fun r => ([.dat .bool r], []))
noncomputable def wbae : Env := waa [(130, wuq)]
noncomputable def wbaf : List (Nat × LD) := [(0, waap)]
noncomputable def wbag : Code := (f122.body).getD .skip
noncomputable def wbah (a1_ : Y1) (_a2_ : List Y1) (a3_ : Y1) : Tr (Bool) :=
 .c (Bool) (wapr a3_ (0 : Int) (wrap .i64 (((length a1_ : Nat) : Int) - 1))) fun r1_ =>
 .l r1_
noncomputable def waiu (a1_ : Y1) (a2_ : List Y1) (a3_ : Y1) : Option (Bool) := (wbah a1_ a2_ a3_).ev
noncomputable def wbue : RetK := yr [.tmp 4] (yj [.dat .bool])
noncomputable def waps : FD := yd (yj [.agg (yj [.dat y1, .dat y2]), .dat y1]) [] [] Bool (fun x => waiu x.1.1.1 x.1.1.2.1 x.1.2.1) (fun r => ([.dat .bool r], []))
noncomputable def wbai (a1_ : Y1) (a2_ : List Y1) (a3_ : Y1) (a4_ : Int) : Tr (Bool) :=
 .c (Bool) (wair a1_ a2_) fun r1_ =>
 .t r1_
 (.c (Bool) (waiu a1_ a2_ a3_) fun r2_ =>
 .t r2_
 (.c (Bool) (wji a4_ (0 : Int) (1000 : Int)) fun r3_ =>
 .l r3_)
 (.l false))
 (.l false)
noncomputable def waiv (a1_ : Y1) (a2_ : List Y1) (a3_ : Y1) (a4_ : Int) : Option (Bool) := (wbai a1_ a2_ a3_ a4_).ev
noncomputable def wbuf : RetK := yr [.tmp 2] (yj [.dat .bool])
noncomputable def wapt : FD := yd (yj [.agg (yj [.dat y1, .dat y2, .dat y1, .dat yi])]) [] [] Bool (fun x => waiv x.1.1.1 x.1.1.2.1 x.1.1.2.2.1 x.1.1.2.2.2.1) (fun r => ([.dat .bool r], []))
noncomputable def wbaj (a1_ : Int) (a2_ : Int) (a3_ : Int) (a4_ : Int) (a5_ : Y1) : Tr (Bool) :=
 .t (a1_ == 1)
 (.t (a1_ == 1)
 (.t (a3_ == 0)
 (.t (a4_ == 0)
 (.l (((length a5_ : Nat) : Int) == (0 : Int)))
 (.l false))
 (.l false))
 (.t (a1_ == 3)
 (.t (a1_ == 3)
 (.t (a4_ == 0)
 (.l (((length a5_ : Nat) : Int) == (0 : Int)))
 (.l false))
 (.t (a1_ == 5)
 (.l (((length a5_ : Nat) : Int) == (0 : Int)))
 (.t (a1_ == 6)
 (.t (a3_ == 0)
 (.l (a4_ == 0))
 (.l false))
 (.t (a1_ == 7)
 (.t (a2_ == 0)
 (.t (a3_ == 0)
 (.l (a4_ == 0))
 (.l false))
 (.l false))
 (.t (a1_ == 10)
 (.t (a2_ == 0)
 (.t (a3_ == 0)
 (.t (a4_ == 0)
 (.l (((length a5_ : Nat) : Int) == (0 : Int)))
 (.l false))
 (.l false))
 (.l false))
 (.t (a1_ == 11)
 (.t (a2_ == 0)
 (.t (a3_ == 0)
 (.t (a4_ == 0)
 (.l (((length a5_ : Nat) : Int) == (0 : Int)))
 (.l false))
 (.l false))
 (.l false))
 (.l false)))))))
 (.t (a1_ == 4)
 (.t (a4_ == 0)
 (.l (((length a5_ : Nat) : Int) == (0 : Int)))
 (.l false))
 (.t (a1_ == 5)
 (.l (((length a5_ : Nat) : Int) == (0 : Int)))
 (.t (a1_ == 6)
 (.t (a3_ == 0)
 (.l (a4_ == 0))
 (.l false))
 (.t (a1_ == 7)
 (.t (a2_ == 0)
 (.t (a3_ == 0)
 (.l (a4_ == 0))
 (.l false))
 (.l false))
 (.t (a1_ == 10)
 (.t (a2_ == 0)
 (.t (a3_ == 0)
 (.t (a4_ == 0)
 (.l (((length a5_ : Nat) : Int) == (0 : Int)))
 (.l false))
 (.l false))
 (.l false))
 (.t (a1_ == 11)
 (.t (a2_ == 0)
 (.t (a3_ == 0)
 (.t (a4_ == 0)
 (.l (((length a5_ : Nat) : Int) == (0 : Int)))
 (.l false))
 (.l false))
 (.l false))
 (.l false)))))))))
 (.t (a1_ == 2)
 (.t (a1_ == 2)
 (.t (a3_ == 0)
 (.t (a4_ == 0)
 (.l (((length a5_ : Nat) : Int) == (0 : Int)))
 (.l false))
 (.l false))
 (.t (a1_ == 3)
 (.t (a1_ == 3)
 (.t (a4_ == 0)
 (.l (((length a5_ : Nat) : Int) == (0 : Int)))
 (.l false))
 (.t (a1_ == 5)
 (.l (((length a5_ : Nat) : Int) == (0 : Int)))
 (.t (a1_ == 6)
 (.t (a3_ == 0)
 (.l (a4_ == 0))
 (.l false))
 (.t (a1_ == 7)
 (.t (a2_ == 0)
 (.t (a3_ == 0)
 (.l (a4_ == 0))
 (.l false))
 (.l false))
 (.t (a1_ == 10)
 (.t (a2_ == 0)
 (.t (a3_ == 0)
 (.t (a4_ == 0)
 (.l (((length a5_ : Nat) : Int) == (0 : Int)))
 (.l false))
 (.l false))
 (.l false))
 (.t (a1_ == 11)
 (.t (a2_ == 0)
 (.t (a3_ == 0)
 (.t (a4_ == 0)
 (.l (((length a5_ : Nat) : Int) == (0 : Int)))
 (.l false))
 (.l false))
 (.l false))
 (.l false)))))))
 (.t (a1_ == 4)
 (.t (a4_ == 0)
 (.l (((length a5_ : Nat) : Int) == (0 : Int)))
 (.l false))
 (.t (a1_ == 5)
 (.l (((length a5_ : Nat) : Int) == (0 : Int)))
 (.t (a1_ == 6)
 (.t (a3_ == 0)
 (.l (a4_ == 0))
 (.l false))
 (.t (a1_ == 7)
 (.t (a2_ == 0)
 (.t (a3_ == 0)
 (.l (a4_ == 0))
 (.l false))
 (.l false))
 (.t (a1_ == 10)
 (.t (a2_ == 0)
 (.t (a3_ == 0)
 (.t (a4_ == 0)
 (.l (((length a5_ : Nat) : Int) == (0 : Int)))
 (.l false))
 (.l false))
 (.l false))
 (.t (a1_ == 11)
 (.t (a2_ == 0)
 (.t (a3_ == 0)
 (.t (a4_ == 0)
 (.l (((length a5_ : Nat) : Int) == (0 : Int)))
 (.l false))
 (.l false))
 (.l false))
 (.l false)))))))))
 (.t (a1_ == 8)
 (.t (a1_ == 8)
 (.t (a3_ == 0)
 (.t (a4_ == 0)
 (.l (((length a5_ : Nat) : Int) == (0 : Int)))
 (.l false))
 (.l false))
 (.t (a1_ == 3)
 (.t (a1_ == 3)
 (.t (a4_ == 0)
 (.l (((length a5_ : Nat) : Int) == (0 : Int)))
 (.l false))
 (.t (a1_ == 5)
 (.l (((length a5_ : Nat) : Int) == (0 : Int)))
 (.t (a1_ == 6)
 (.t (a3_ == 0)
 (.l (a4_ == 0))
 (.l false))
 (.t (a1_ == 7)
 (.t (a2_ == 0)
 (.t (a3_ == 0)
 (.l (a4_ == 0))
 (.l false))
 (.l false))
 (.t (a1_ == 10)
 (.t (a2_ == 0)
 (.t (a3_ == 0)
 (.t (a4_ == 0)
 (.l (((length a5_ : Nat) : Int) == (0 : Int)))
 (.l false))
 (.l false))
 (.l false))
 (.t (a1_ == 11)
 (.t (a2_ == 0)
 (.t (a3_ == 0)
 (.t (a4_ == 0)
 (.l (((length a5_ : Nat) : Int) == (0 : Int)))
 (.l false))
 (.l false))
 (.l false))
 (.l false)))))))
 (.t (a1_ == 4)
 (.t (a4_ == 0)
 (.l (((length a5_ : Nat) : Int) == (0 : Int)))
 (.l false))
 (.t (a1_ == 5)
 (.l (((length a5_ : Nat) : Int) == (0 : Int)))
 (.t (a1_ == 6)
 (.t (a3_ == 0)
 (.l (a4_ == 0))
 (.l false))
 (.t (a1_ == 7)
 (.t (a2_ == 0)
 (.t (a3_ == 0)
 (.l (a4_ == 0))
 (.l false))
 (.l false))
 (.t (a1_ == 10)
 (.t (a2_ == 0)
 (.t (a3_ == 0)
 (.t (a4_ == 0)
 (.l (((length a5_ : Nat) : Int) == (0 : Int)))
 (.l false))
 (.l false))
 (.l false))
 (.t (a1_ == 11)
 (.t (a2_ == 0)
 (.t (a3_ == 0)
 (.t (a4_ == 0)
 (.l (((length a5_ : Nat) : Int) == (0 : Int)))
 (.l false))
 (.l false))
 (.l false))
 (.l false)))))))))
 (.t (a1_ == 9)
 (.t (a3_ == 0)
 (.t (a4_ == 0)
 (.l (((length a5_ : Nat) : Int) == (0 : Int)))
 (.l false))
 (.l false))
 (.t (a1_ == 3)
 (.t (a1_ == 3)
 (.t (a4_ == 0)
 (.l (((length a5_ : Nat) : Int) == (0 : Int)))
 (.l false))
 (.t (a1_ == 5)
 (.l (((length a5_ : Nat) : Int) == (0 : Int)))
 (.t (a1_ == 6)
 (.t (a3_ == 0)
 (.l (a4_ == 0))
 (.l false))
 (.t (a1_ == 7)
 (.t (a2_ == 0)
 (.t (a3_ == 0)
 (.l (a4_ == 0))
 (.l false))
 (.l false))
 (.t (a1_ == 10)
 (.t (a2_ == 0)
 (.t (a3_ == 0)
 (.t (a4_ == 0)
 (.l (((length a5_ : Nat) : Int) == (0 : Int)))
 (.l false))
 (.l false))
 (.l false))
 (.t (a1_ == 11)
 (.t (a2_ == 0)
 (.t (a3_ == 0)
 (.t (a4_ == 0)
 (.l (((length a5_ : Nat) : Int) == (0 : Int)))
 (.l false))
 (.l false))
 (.l false))
 (.l false)))))))
 (.t (a1_ == 4)
 (.t (a4_ == 0)
 (.l (((length a5_ : Nat) : Int) == (0 : Int)))
 (.l false))
 (.t (a1_ == 5)
 (.l (((length a5_ : Nat) : Int) == (0 : Int)))
 (.t (a1_ == 6)
 (.t (a3_ == 0)
 (.l (a4_ == 0))
 (.l false))
 (.t (a1_ == 7)
 (.t (a2_ == 0)
 (.t (a3_ == 0)
 (.l (a4_ == 0))
 (.l false))
 (.l false))
 (.t (a1_ == 10)
 (.t (a2_ == 0)
 (.t (a3_ == 0)
 (.t (a4_ == 0)
 (.l (((length a5_ : Nat) : Int) == (0 : Int)))
 (.l false))
 (.l false))
 (.l false))
 (.t (a1_ == 11)
 (.t (a2_ == 0)
 (.t (a3_ == 0)
 (.t (a4_ == 0)
 (.l (((length a5_ : Nat) : Int) == (0 : Int)))
 (.l false))
 (.l false))
 (.l false))
 (.l false)))))))))))
noncomputable def wapu (a1_ : Int) (a2_ : Int) (a3_ : Int) (a4_ : Int) (a5_ : Y1) : Option (Bool) := (wbaj a1_ a2_ a3_ a4_ a5_).ev
noncomputable def wbug : RetK := yr [.tmp 2] (yj [.dat .bool])
noncomputable def wbak : FD := yd (yj [.agg (yj [.dat yi, .dat yi, .dat yi, .dat yi, .dat y1])]) [] [] Bool (fun x => wapu x.1.1.1 x.1.1.2.1 x.1.1.2.2.1 x.1.1.2.2.2.1 x.1.1.2.2.2.2.1) (fun r => ([.dat .bool r], []))
noncomputable def wbal (a1_ : Y1) (_a2_ : List Y1) (a3_ : Int) : Tr (Bool) :=
 .c (Bool) (wji a3_ (0 : Int) (wrap .i64 (((length a1_ : Nat) : Int) - 1))) fun r1_ =>
 .l r1_
noncomputable def wur (a1_ : Y1) (a2_ : List Y1) (a3_ : Int) : Option (Bool) := (wbal a1_ a2_ a3_).ev
noncomputable def wbuh : RetK := yr [.tmp 4] (yj [.dat .bool])
noncomputable def wapv : FD := yd (yj [.agg (yj [.dat y1, .dat y2]), .dat yi]) [] [] Bool (fun x => wur x.1.1.1 x.1.1.2.1 x.1.2.1) (fun r => ([.dat .bool r], []))
noncomputable def wmt (k : Y1 × Int) (v : Int) : Tr ((Int) ⊕ ((Unit) ⊕ (Unit))) :=
 .t (decide (v < ((length k.1 : Nat) : Int)))
 (.g (inR v (length k.1)) <|
 .t ((getD k.1 (toNat v) 0) == k.2)
 (.l (.inr (.inr ())))
 (.l (.inl (wrap .i64 (v + 1)))))
 (.l (.inr (.inl ())))
noncomputable def waiw (k : Y1 × Int) (v : Int) : Option ((Unit) ⊕ (Unit)) := iter (fun v => (wmt k v).ev) v
noncomputable def waaq : LD := ⟨(yh [0, 1, 5] (yj [.dat y1, .dat yi, .dat yi])), [(0, (yh [] .nil))], (yh [4] (yj [.dat .bool])), Y1 × (Int), Int, (Unit) ⊕ (Unit), fun k v => ((k.1, (k.2, (v, ()))), ()), fun t => (t.1.1, t.1.2.1), fun t => t.1.2.2.1, wmt, fun _ r => .s (Unit) (Unit) r (fun _ => .l (.exit 0 (wbd ((ys [] .nil)) ((), ())))) (fun _ => .l (.ret (wbd ((ys [4] (yj [.dat .bool]))) ((true, ()), ()))))⟩
noncomputable def wbam (a1_ : Y1) (a2_ : Int) : Tr (Bool) :=
 .c ((Unit) ⊕ (Unit)) (waiw (a1_, a2_) (0 : Int)) fun r5_ =>
 .s (Unit) (Unit) r5_
 (fun _ => .l false)
 (fun _ => .l true)
noncomputable def wmu (a1_ : Y1) (a2_ : Int) : Option (Bool) := (wbam a1_ a2_).ev
noncomputable def wbui : RetK := yr [.tmp 4] (yj [.dat .bool])
noncomputable def waix : FD := yd (yj [.dat y1, .dat yi]) [] [] Bool (fun x => wmu x.1.1 x.1.2.1) (fun r => ([.dat .bool r], []))
noncomputable def wban : Env := waa []
noncomputable def wbao : List (Nat × LD) := [(0, waaq)]
noncomputable def wbap : Code := (f112.body).getD .skip
noncomputable def wbaq (a1_ : Y1) (a2_ : List Y1) (a3_ : Y1) (_a4_ : Int) (a5_ : Int) : Tr (Bool) :=
 .c (Bool) (wur a1_ a2_ a5_) fun r1_ =>
 .t r1_
 (.c (Bool) (wmu a3_ a5_) fun r2_ =>
 .l (!r2_))
 (.l false)
noncomputable def wxs (a1_ : Y1) (a2_ : List Y1) (a3_ : Y1) (a4_ : Int) (a5_ : Int) : Option (Bool) := (wbaq a1_ a2_ a3_ a4_ a5_).ev
noncomputable def wbuj : RetK := yr [.tmp 4] (yj [.dat .bool])
noncomputable def wbar : FD := yd (yj [.agg (yj [.dat y1, .dat y2, .dat y1, .dat yi]), .dat yi]) [] [] Bool (fun x => wxs x.1.1.1 x.1.1.2.1 x.1.1.2.2.1 x.1.1.2.2.2.1 x.1.2.1) (fun r => ([.dat .bool r], []))
noncomputable def wbas (a1_ : Y1) (a2_ : List Y1) (a3_ : Y1) (a4_ : Int) (a5_ : Int) (a6_ : Int) (a7_ : Int) (_a8_ : Int) (a9_ : Y1) : Tr (Bool) :=
 .t (a5_ == 1)
 (.t (a5_ == 1)
 (.c (Bool) (wxs a1_ a2_ a3_ a4_ a6_) fun r1_ =>
 .l r1_)
 (.t (a5_ == 2)
 (.c (Bool) (wmu a3_ a6_) fun r2_ =>
 .l r2_)
 (.t (a5_ == 3)
 (.c (Bool) (wmu a3_ a6_) fun r3_ =>
 .t r3_
 (.c (Bool) (wxs a1_ a2_ a3_ a4_ a7_) fun r4_ =>
 .l r4_)
 (.l false))
 (.t (a5_ == 4)
 (.c (Bool) (wur a1_ a2_ a6_) fun r5_ =>
 .l r5_)
 (.t (a5_ == 5)
 (.c (Bool) (wji a6_ (0 : Int) (wrap .i64 (((length a2_ : Nat) : Int) - 1))) fun r6_ =>
 .t r6_
 (.c (Bool) (wur a1_ a2_ a7_) fun r7_ =>
 .l r7_)
 (.l false))
 (.t (a5_ == 6)
 (.l (((length a9_ : Nat) : Int) == ((length a2_ : Nat) : Int)))
 (.t (a5_ == 9)
 (.c (Bool) (wji a6_ (0 : Int) (wrap .i64 (((length a2_ : Nat) : Int) - 1))) fun r8_ =>
 .l r8_)
 (.t (a5_ == 10)
 (.l (decide ((0 : Int) < ((length a3_ : Nat) : Int))))
 (.l true)))))))))
 (.t (a5_ == 8)
 (.c (Bool) (wxs a1_ a2_ a3_ a4_ a6_) fun r9_ =>
 .l r9_)
 (.t (a5_ == 2)
 (.c (Bool) (wmu a3_ a6_) fun r10_ =>
 .l r10_)
 (.t (a5_ == 3)
 (.c (Bool) (wmu a3_ a6_) fun r11_ =>
 .t r11_
 (.c (Bool) (wxs a1_ a2_ a3_ a4_ a7_) fun r12_ =>
 .l r12_)
 (.l false))
 (.t (a5_ == 4)
 (.c (Bool) (wur a1_ a2_ a6_) fun r13_ =>
 .l r13_)
 (.t (a5_ == 5)
 (.c (Bool) (wji a6_ (0 : Int) (wrap .i64 (((length a2_ : Nat) : Int) - 1))) fun r14_ =>
 .t r14_
 (.c (Bool) (wur a1_ a2_ a7_) fun r15_ =>
 .l r15_)
 (.l false))
 (.t (a5_ == 6)
 (.l (((length a9_ : Nat) : Int) == ((length a2_ : Nat) : Int)))
 (.t (a5_ == 9)
 (.c (Bool) (wji a6_ (0 : Int) (wrap .i64 (((length a2_ : Nat) : Int) - 1))) fun r16_ =>
 .l r16_)
 (.t (a5_ == 10)
 (.l (decide ((0 : Int) < ((length a3_ : Nat) : Int))))
 (.l true)))))))))
noncomputable def wapw (a1_ : Y1) (a2_ : List Y1) (a3_ : Y1) (a4_ : Int) (a5_ : Int) (a6_ : Int) (a7_ : Int) (a8_ : Int) (a9_ : Y1) : Option (Bool) := (wbas a1_ a2_ a3_ a4_ a5_ a6_ a7_ a8_ a9_).ev
noncomputable def wbuk : RetK := yr [.tmp 4] (yj [.dat .bool])
noncomputable def wbat : FD := yd (yj [.agg (yj [.dat y1, .dat y2, .dat y1, .dat yi]), .agg (yj [.dat yi, .dat yi, .dat yi, .dat yi, .dat y1])]) [] [] Bool (fun x => wapw x.1.1.1 x.1.1.2.1 x.1.1.2.2.1 x.1.1.2.2.2.1 x.1.2.1.1 x.1.2.1.2.1 x.1.2.1.2.2.1 x.1.2.1.2.2.2.1 x.1.2.1.2.2.2.2.1) (fun r => ([.dat .bool r], []))
noncomputable def wbau (a1_ : Y1) : Tr Y1 :=
 .g (decide ((length ([] : Y1) + length a1_) * 8 ≤ 140737488355328)) <|
 .l (([] : Y1) ++ a1_)
noncomputable def woi (a1_ : Y1) : Option Y1 := (wbau a1_).ev
noncomputable def wbul : RetK := { acts := [.ren 3 0], res := [.tmp 2], sh := (yj [.arr 0]), obs := [(0, .arr 3 yi)], pins := [] }
noncomputable def waen : FD := yd (yj [.dat y1]) [] [] Y1 (fun x => woi x.1.1) (fun r => ([.arr 0], [(0, .arr 3 yi r)]))
noncomputable def wmv (k : Y1 × (Y2 × (Y1 × (Int × (Int × (Y2 × Y1)))))) (v : Int × Y2) : Tr ((Int × Y2) ⊕ Y2) :=
 .t (decide (v.1 < ((length k.2.1 : Nat) : Int)))
 (.g (inR v.1 (length k.2.1)) <|
 .c Y1 (woi (getD k.2.1 (toNat v.1) ([] : Y1))) fun r11_ =>
 .g (decide ((length v.2 + 1) * 24 ≤ 140737488355328)) <|
 .l (.inl ((wrap .i64 (v.1 + 1)), (set (v.2 ++ [[]]) (length v.2) r11_))))
 (.l (.inr v.2))
noncomputable def waiy (k : Y1 × (Y2 × (Y1 × (Int × (Int × (Y2 × Y1)))))) (v : Int × Y2) : Option Y2 := iter (fun v => (wmv k v).ev) v
noncomputable def waar : LD := ⟨{ acts := [.ownRB 2 1 900321 24 3 yi], S := { slots := [1, 2, 3, 4], sh := (yj [.box 1 0, .box 2 0, .box 3 0, .dat yi]), obs := [(1, .cells (yj [.dat y1, .dat y2, .dat y1, .dat yi])), (2, .cells (yj [.nilsl, .arr 900321, .nilsl, .dat yi])), (3, .cells (yj [.arr 512, .arr 9])), (900321, .rows 24 3 yi), (512, .arr 3 yi), (9, .rows 24 3 yi)] } }, [(0, { acts := [], S := { slots := [1, 2, 3], sh := (yj [.box 1 0, .box 2 0, .box 3 0]), obs := [(1, .cells (yj [.dat y1, .dat y2, .dat y1, .dat yi])), (2, .cells (yj [.nilsl, .arr 900321, .nilsl, .dat yi])), (3, .cells (yj [.arr 512, .arr 9])), (900321, .rows 24 3 yi), (512, .arr 3 yi), (9, .rows 24 3 yi)] } })], (yh [] .nil), Y1 × (Y2 × (Y1 × (Int × (Int × (Y2 × Y1))))), Int × Y2, List Y1, fun k v => (((), ((), ((), (v.1, ())))), ((k.1, (k.2.1, (k.2.2.1, (k.2.2.2.1, ())))), (((), ((), ((), (k.2.2.2.2.1, ())))), (((), ((), ())), (k.2.2.2.2.2.1, (k.2.2.2.2.2.2, (v.2, ()))))))), fun t => (t.2.1.1, (t.2.1.2.1, (t.2.1.2.2.1, (t.2.1.2.2.2.1, (t.2.2.1.2.2.2.1, (t.2.2.2.2.1, t.2.2.2.2.2.1)))))), fun t => (t.1.2.2.2.1, t.2.2.2.2.2.2.1), wmv, fun k r => .l (.exit 0 (wbd ({ slots := [1, 2, 3], sh := (yj [.box 1 0, .box 2 0, .box 3 0]), obs := [(1, .cells (yj [.dat y1, .dat y2, .dat y1, .dat yi])), (2, .cells (yj [.nilsl, .arr 900321, .nilsl, .dat yi])), (3, .cells (yj [.arr 512, .arr 9])), (900321, .rows 24 3 yi), (512, .arr 3 yi), (9, .rows 24 3 yi)] }) (((), ((), ((), ()))), ((k.1, (k.2.1, (k.2.2.1, (k.2.2.2.1, ())))), (((), ((), ((), (k.2.2.2.2.1, ())))), (((), ((), ())), (k.2.2.2.2.2.1, (k.2.2.2.2.2.2, (r, ())))))))))⟩
noncomputable def wbav (a1_ : Y1) (a2_ : List Y1) (a3_ : Y1) (a4_ : Int) : Tr (Int × (Y1 × (Y2 × Y1))) :=
 .c Y1 (woi a1_) fun r1_ =>
 .c Y2 (waiy (a1_, (a2_, (a3_, (a4_, ((0 : Int), (([] : List Y1), r1_)))))) ((0 : Int), ([] : List Y1))) fun r20_ =>
 .c Y1 (woi a3_) fun r21_ =>
 .l (a4_, (r1_, (r20_, r21_)))
noncomputable def waiz (a1_ : Y1) (a2_ : List Y1) (a3_ : Y1) (a4_ : Int) : Option (Int × (Y1 × (Y2 × Y1))) := (wbav a1_ a2_ a3_ a4_).ev
noncomputable def wbum : RetK := { acts := [.ren 512 4, .ren 9 5, .ren 2176 6], res := [.cell 2 68], sh := (yj [.agg (yj [.arr 4, .arr 5, .arr 6, .dat yi])]), obs := [(4, .arr 3 yi), (5, .rows 24 3 yi), (6, .arr 3 yi)], pins := [] }
noncomputable def wapx : FD := yd (yj [.agg (yj [.dat y1, .dat y2, .dat y1, .dat yi])]) [] [] (Int × (Y1 × (Y2 × Y1))) (fun x => waiz x.1.1.1 x.1.1.2.1 x.1.1.2.2.1 x.1.1.2.2.2.1) (fun r => ([.agg [.arr 4, .arr 5, .arr 6, .dat yi r.1]], [(4, .arr 3 yi r.2.1), (5, .rows 24 3 yi r.2.2.1 none), (6, .arr 3 yi r.2.2.2)]))
noncomputable def wbaw : Nat → Nat → List Nat := fun r i => match look [(1, [(4, [1000000])])] r with
 | some l => (look l i).getD []
 | none => []
noncomputable def wbax : Env := waa [(173, waen)]
noncomputable def wbay : List (Nat × LD) := [(0, waar)]
noncomputable def wbaz : Code := (f156.body).getD .skip
noncomputable def wjk (k : Y1 × Int) (v : Int) : Tr ((Int) ⊕ (Int)) :=
 .t (decide (v < ((length k.1 : Nat) : Int)))
 (.g (inR v (length k.1)) <|
 .t (decide ((getD k.1 (toNat v) 0) < k.2))
 (.l (.inl (wrap .i64 (v + 1))))
 (.l (.inr v)))
 (.l (.inr v))
noncomputable def wxt (k : Y1 × Int) (v : Int) : Option (Int) := iter (fun v => (wjk k v).ev) v
noncomputable def waas : LD := ⟨(yh [0, 1, 5] (yj [.dat y1, .dat yi, .dat yi])), [(0, (yh [0, 1, 5] (yj [.dat y1, .dat yi, .dat yi])))], (yh [] .nil), Y1 × (Int), Int, Int, fun k v => ((k.1, (k.2, (v, ()))), ()), fun t => (t.1.1, t.1.2.1), fun t => t.1.2.2.1, wjk, fun k r => .l (.exit 0 (wbd ((ys [0, 1, 5] (yj [.dat y1, .dat yi, .dat yi]))) ((k.1, (k.2, (r, ()))), ())))⟩
noncomputable def wbba (a1_ : Y1) (a2_ : Int) : Tr Y1 :=
 .c (Int) (wxt (a1_, a2_) (0 : Int)) fun r7_ =>
 .t (decide (r7_ < ((length a1_ : Nat) : Int)))
 (.g (inR r7_ (length a1_)) <|
 .t ((getD a1_ (toNat r7_) 0) == a2_)
 (.f)
 (.g (decide (0 ≤ r7_) && decide (r7_ ≤ ((length a1_ : Nat) : Int))) <|
 .g (decide ((length ([] : Y1) + length (List.drop 0 (List.take (toNat r7_) a1_))) * 8 ≤ 140737488355328)) <|
 .g (decide ((length (([] : Y1) ++ (List.drop 0 (List.take (toNat r7_) a1_))) + length ([a2_] : Y1)) * 8 ≤ 140737488355328)) <|
 .g (decide (0 ≤ r7_) && decide (r7_ ≤ ((length a1_ : Nat) : Int))) <|
 .g (decide ((length ((([] : Y1) ++ (List.drop 0 (List.take (toNat r7_) a1_))) ++ ([a2_] : Y1)) + length (List.drop (toNat r7_) (List.take (length a1_) a1_))) * 8 ≤ 140737488355328)) <|
 .l (((([] : Y1) ++ (List.drop 0 (List.take (toNat r7_) a1_))) ++ ([a2_] : Y1)) ++ (List.drop (toNat r7_) (List.take (length a1_) a1_)))))
 (.g (decide (0 ≤ r7_) && decide (r7_ ≤ ((length a1_ : Nat) : Int))) <|
 .g (decide ((length ([] : Y1) + length (List.drop 0 (List.take (toNat r7_) a1_))) * 8 ≤ 140737488355328)) <|
 .g (decide ((length (([] : Y1) ++ (List.drop 0 (List.take (toNat r7_) a1_))) + length ([a2_] : Y1)) * 8 ≤ 140737488355328)) <|
 .g (decide (0 ≤ r7_) && decide (r7_ ≤ ((length a1_ : Nat) : Int))) <|
 .g (decide ((length ((([] : Y1) ++ (List.drop 0 (List.take (toNat r7_) a1_))) ++ ([a2_] : Y1)) + length (List.drop (toNat r7_) (List.take (length a1_) a1_))) * 8 ≤ 140737488355328)) <|
 .l (((([] : Y1) ++ (List.drop 0 (List.take (toNat r7_) a1_))) ++ ([a2_] : Y1)) ++ (List.drop (toNat r7_) (List.take (length a1_) a1_))))
noncomputable def wus (a1_ : Y1) (a2_ : Int) : Option Y1 := (wbba a1_ a2_).ev
noncomputable def wbun : RetK := { acts := [.ren 33 0], res := [.tmp 4], sh := (yj [.arr 0]), obs := [(0, .arr 3 yi)], pins := [] }
noncomputable def wapy : FD := yd (yj [.dat y1, .dat yi]) [] [] Y1 (fun x => wus x.1.1 x.1.2.1) (fun r => ([.arr 0], [(0, .arr 3 yi r)]))
noncomputable def wbbb : Nat → Nat → List Nat := fun r i => match look [(5, [(1, [140000000])])] r with
 | some l => (look l i).getD []
 | none => []
noncomputable def wbbc : Env := waa []
noncomputable def wbbd : List (Nat × LD) := [(0, waas)]
noncomputable def wbbe : Code := (f169.body).getD .skip
noncomputable def wjl (k : Y1 × Int) (v : Int × Y1) : Tr ((Int × Y1) ⊕ Y1) :=
 .t (decide (v.1 < ((length k.1 : Nat) : Int)))
 (.g (inR v.1 (length k.1)) <|
 .t ((getD k.1 (toNat v.1) 0) != k.2)
 (.g (inR v.1 (length k.1)) <|
 .g (decide ((length v.2 + length ([(getD k.1 (toNat v.1) 0)] : Y1)) * 8 ≤ 140737488355328)) <|
 .l (.inl ((wrap .i64 (v.1 + 1)), (v.2 ++ ([(getD k.1 (toNat v.1) 0)] : Y1)))))
 (.l (.inl ((wrap .i64 (v.1 + 1)), v.2))))
 (.l (.inr v.2))
noncomputable def wxu (k : Y1 × Int) (v : Int × Y1) : Option Y1 := iter (fun v => (wjl k v).ev) v
noncomputable def waat : LD := ⟨{ acts := [], S := { slots := [0, 1, 5, 6], sh := (yj [.dat y1, .dat yi, .arr 7, .dat yi]), obs := [(7, .arr 3 yi)] } }, [(0, { acts := [], S := { slots := [5], sh := (yj [.arr 7]), obs := [(7, .arr 3 yi)] } })], (yh [] .nil), Y1 × (Int), Int × Y1, Y1, fun k v => ((k.1, (k.2, ((), (v.1, ())))), (v.2, ())), fun t => (t.1.1, t.1.2.1), fun t => (t.1.2.2.2.1, t.2.1), wjl, fun _ r => .l (.exit 0 (wbd ({ slots := [5], sh := (yj [.arr 7]), obs := [(7, .arr 3 yi)] }) (((), ()), (r, ()))))⟩
noncomputable def wbbf (a1_ : Y1) (a2_ : Int) : Tr Y1 :=
 .c Y1 (wxu (a1_, a2_) ((0 : Int), ([] : Y1))) fun r6_ =>
 .l r6_
noncomputable def waeo (a1_ : Y1) (a2_ : Int) : Option Y1 := (wbbf a1_ a2_).ev
noncomputable def wbuo : RetK := { acts := [.ren 7 0], res := [.tmp 4], sh := (yj [.arr 0]), obs := [(0, .arr 3 yi)], pins := [] }
noncomputable def wapz : FD := yd (yj [.dat y1, .dat yi]) [] [] Y1 (fun x => waeo x.1.1 x.1.2.1) (fun r => ([.arr 0], [(0, .arr 3 yi r)]))
noncomputable def wbbg : Env := waa []
noncomputable def wbbh : List (Nat × LD) := [(0, waat)]
noncomputable def wbbi : Code := (f245.body).getD .skip
noncomputable def wbbj (a1_ : Y1) (a2_ : Int) : Tr Y1 :=
 .g (decide (0 ≤ a2_) && decide (a2_ ≤ ((length a1_ : Nat) : Int))) <|
 .c Y1 (woi (List.drop 0 (List.take (toNat a2_) a1_))) fun r1_ =>
 .g (decide ((0 : Int) ≤ (wrap .i64 (a2_ + 1))) && decide ((wrap .i64 (a2_ + 1)) ≤ ((length a1_ : Nat) : Int))) <|
 .g (decide ((length r1_ + length (List.drop (toNat (wrap .i64 (a2_ + 1))) (List.take (length a1_) a1_))) * 8 ≤ 140737488355328)) <|
 .l (r1_ ++ (List.drop (toNat (wrap .i64 (a2_ + 1))) (List.take (length a1_) a1_)))
noncomputable def waja (a1_ : Y1) (a2_ : Int) : Option Y1 := (wbbj a1_ a2_).ev
noncomputable def wbup : RetK := { acts := [.ren 512 0], res := [.tmp 4], sh := (yj [.arr 0]), obs := [(0, .arr 3 yi)], pins := [] }
noncomputable def wbbk : FD := yd (yj [.dat y1, .dat yi]) [] [] Y1 (fun x => waja x.1.1 x.1.2.1) (fun r => ([.arr 0], [(0, .arr 3 yi r)]))
noncomputable def wmw (k : Int × (Y1 × (Y2 × (Y1 × (Int × (Int × (Int × (Y1 × Y1)))))))) (v : Int × Y2) : Tr ((Int × Y2) ⊕ Y2) :=
 .t (decide (v.1 < ((length k.2.2.1 : Nat) : Int)))
 (.g (inR v.1 (length k.2.2.1)) <|
 .c Y1 (waja (getD k.2.2.1 (toNat v.1) ([] : Y1)) k.1) fun r14_ =>
 .g (inR v.1 (length v.2)) <|
 .g (decide ((toNat v.1) < length v.2)) <|
 .l (.inl ((wrap .i64 (v.1 + 1)), (set v.2 (toNat v.1) r14_))))
 (.l (.inr v.2))
noncomputable def wajb (k : Int × (Y1 × (Y2 × (Y1 × (Int × (Int × (Int × (Y1 × Y1)))))))) (v : Int × Y2) : Option Y2 := iter (fun v => (wmw k v).ev) v
noncomputable def waau : LD := ⟨{ acts := [], S := { slots := [1, 2, 4, 5, 6], sh := (yj [.dat yi, .box 2 0, .box 4 0, .box 5 0, .dat yi]), obs := [(2, .cells (yj [.dat y1, .dat y2, .dat y1, .dat yi])), (4, .cells (yj [.nilsl, .nilsl, .nilsl, .dat yi])), (5, .cells (yj [.arr 896, .arr 581, .arr 582, .dat yi])), (896, .arr 3 yi), (581, .rows 24 3 yi), (582, .arr 3 yi)] } }, [(0, { acts := [], S := { slots := [1, 4, 5], sh := (yj [.dat yi, .box 4 0, .box 5 0]), obs := [(4, .cells (yj [.nilsl, .nilsl, .nilsl, .dat yi])), (5, .cells (yj [.arr 896, .arr 581, .arr 582, .dat yi])), (896, .arr 3 yi), (581, .rows 24 3 yi), (582, .arr 3 yi)] } })], (yh [] .nil), Int × (Y1 × (Y2 × (Y1 × (Int × (Int × (Int × (Y1 × Y1))))))), Int × Y2, List Y1, fun k v => ((k.1, ((), ((), ((), (v.1, ()))))), ((k.2.1, (k.2.2.1, (k.2.2.2.1, (k.2.2.2.2.1, ())))), (((), ((), ((), (k.2.2.2.2.2.1, ())))), (((), ((), ((), (k.2.2.2.2.2.2.1, ())))), (k.2.2.2.2.2.2.2.1, (v.2, (k.2.2.2.2.2.2.2.2, ()))))))), fun t => (t.1.1, (t.2.1.1, (t.2.1.2.1, (t.2.1.2.2.1, (t.2.1.2.2.2.1, (t.2.2.1.2.2.2.1, (t.2.2.2.1.2.2.2.1, (t.2.2.2.2.1, t.2.2.2.2.2.2.1)))))))), fun t => (t.1.2.2.2.2.1, t.2.2.2.2.2.1), wmw, fun k r => .l (.exit 0 (wbd ({ slots := [1, 4, 5], sh := (yj [.dat yi, .box 4 0, .box 5 0]), obs := [(4, .cells (yj [.nilsl, .nilsl, .nilsl, .dat yi])), (5, .cells (yj [.arr 896, .arr 581, .arr 582, .dat yi])), (896, .arr 3 yi), (581, .rows 24 3 yi), (582, .arr 3 yi)] }) ((k.1, ((), ((), ()))), (((), ((), ((), (k.2.2.2.2.2.1, ())))), (((), ((), ((), (k.2.2.2.2.2.2.1, ())))), (k.2.2.2.2.2.2.2.1, (r, (k.2.2.2.2.2.2.2.2, ()))))))))⟩
noncomputable def wjm (k : Int × (Int × (Int × (Y1 × Y2)))) (v : Int × Y1) : Tr ((Int × Y1) ⊕ Y1) :=
 .t (decide (v.1 < ((length v.2 : Nat) : Int)))
 (.g (inR v.1 (length v.2)) <|
 .g (decide ((toNat v.1) < length v.2)) <|
 .t (decide (k.1 < (getD v.2 (toNat v.1) 0)))
 (.g (inR v.1 (length v.2)) <|
 .g (decide ((toNat v.1) < length v.2)) <|
 .g (inR v.1 (length v.2)) <|
 .g (decide ((toNat v.1) < length v.2)) <|
 .l (.inl ((wrap .i64 (v.1 + 1)), (set v.2 (toNat v.1) (wrap .i64 ((getD v.2 (toNat v.1) 0) - 1))))))
 (.l (.inl ((wrap .i64 (v.1 + 1)), v.2))))
 (.l (.inr v.2))
noncomputable def wajc (k : Int × (Int × (Int × (Y1 × Y2)))) (v : Int × Y1) : Option Y1 := iter (fun v => (wjm k v).ev) v
noncomputable def waav : LD := ⟨{ acts := [], S := { slots := [1, 4, 5, 7], sh := (yj [.dat yi, .box 4 0, .box 5 0, .dat yi]), obs := [(4, .cells (yj [.nilsl, .nilsl, .nilsl, .dat yi])), (5, .cells (yj [.arr 896, .arr 581, .arr 582, .dat yi])), (896, .arr 3 yi), (581, .rows 24 3 yi), (582, .arr 3 yi)] } }, [(2, { acts := [], S := { slots := [4, 5], sh := (yj [.box 4 0, .box 5 0]), obs := [(4, .cells (yj [.nilsl, .nilsl, .nilsl, .dat yi])), (5, .cells (yj [.arr 896, .arr 581, .arr 582, .dat yi])), (896, .arr 3 yi), (581, .rows 24 3 yi), (582, .arr 3 yi)] } })], (yh [] .nil), Int × (Int × (Int × (Y1 × Y2))), Int × Y1, Y1, fun k v => ((k.1, ((), ((), (v.1, ())))), (((), ((), ((), (k.2.1, ())))), (((), ((), ((), (k.2.2.1, ())))), (k.2.2.2.1, (k.2.2.2.2, (v.2, ())))))), fun t => (t.1.1, (t.2.1.2.2.2.1, (t.2.2.1.2.2.2.1, (t.2.2.2.1, t.2.2.2.2.1)))), fun t => (t.1.2.2.2.1, t.2.2.2.2.2.1), wjm, fun k r => .l (.exit 2 (wbd ({ slots := [4, 5], sh := (yj [.box 4 0, .box 5 0]), obs := [(4, .cells (yj [.nilsl, .nilsl, .nilsl, .dat yi])), (5, .cells (yj [.arr 896, .arr 581, .arr 582, .dat yi])), (896, .arr 3 yi), (581, .rows 24 3 yi), (582, .arr 3 yi)] }) (((), ((), ())), (((), ((), ((), (k.2.1, ())))), (((), ((), ((), (k.2.2.1, ())))), (k.2.2.2.1, (k.2.2.2.2, (r, ()))))))))⟩
noncomputable def wbbl (a1_ : Y1) (a2_ : List Y1) (a3_ : Y1) (a4_ : Int) (a5_ : Int) : Tr (Int × (Y1 × (Y2 × Y1))) :=
 .c (Int × (Y1 × (Y2 × Y1))) (waiz a1_ a2_ a3_ a4_) fun r1_ =>
 .c Y1 (waja a1_ a5_) fun r2_ =>
 .c Y2 (wajb (a5_, (a1_, (a2_, (a3_, (a4_, ((0 : Int), (r1_.1, (r2_, r1_.2.2.2)))))))) ((0 : Int), r1_.2.2.1)) fun r21_ =>
 .c Y1 (wajc (a5_, ((0 : Int), (r1_.1, (r2_, r21_)))) ((0 : Int), r1_.2.2.2)) fun r34_ =>
 .l (r1_.1, (r2_, (r21_, r34_)))
noncomputable def waqa (a1_ : Y1) (a2_ : List Y1) (a3_ : Y1) (a4_ : Int) (a5_ : Int) : Option (Int × (Y1 × (Y2 × Y1))) := (wbbl a1_ a2_ a3_ a4_ a5_).ev
noncomputable def wbuq : RetK := { acts := [.ren 896 1, .ren 581 2, .ren 582 3], res := [.cell 4 68], sh := (yj [.agg (yj [.arr 1, .arr 2, .arr 3, .dat yi])]), obs := [(1, .arr 3 yi), (2, .rows 24 3 yi), (3, .arr 3 yi)], pins := [] }
noncomputable def wbbm : FD := yd (yj [.agg (yj [.dat y1, .dat y2, .dat y1, .dat yi]), .dat yi]) [] [] (Int × (Y1 × (Y2 × Y1))) (fun x => waqa x.1.1.1 x.1.1.2.1 x.1.1.2.2.1 x.1.1.2.2.2.1 x.1.2.1) (fun r => ([.agg [.arr 1, .arr 2, .arr 3, .dat yi r.1]], [(1, .arr 3 yi r.2.1), (2, .rows 24 3 yi r.2.2.1 none), (3, .arr 3 yi r.2.2.2)]))
noncomputable def waqb : Env := waa [(156, wapx), (265, wbbk)]
noncomputable def waqc : List (Nat × LD) := [(0, waau), (2, waav)]
noncomputable def waqd : Code := (f246.body).getD .skip
noncomputable def wbbn (a1_ : Y1) (a2_ : List Y1) (a3_ : Y1) : Tr (Bool) :=
 .c (Bool) (wair a1_ a2_) fun r1_ =>
 .t r1_
 (.c (Bool) (waiu a1_ a2_ a3_) fun r2_ =>
 .t r2_
 (.l (decide ((0 : Int) < ((length a3_ : Nat) : Int))))
 (.l false))
 (.l false)
noncomputable def waqe (a1_ : Y1) (a2_ : List Y1) (a3_ : Y1) : Option (Bool) := (wbbn a1_ a2_ a3_).ev
noncomputable def wbur : RetK := yr [.tmp 4] (yj [.dat .bool])
noncomputable def wbbo : FD := yd (yj [.agg (yj [.dat y1, .dat y2]), .dat y1]) [] [] Bool (fun x => waqe x.1.1.1 x.1.1.2.1 x.1.2.1) (fun r => ([.dat .bool r], []))
noncomputable def wjn (k : Y1 × (Int × ((Nat) × (Y1 × (Y2 × (Y2 × Y2)))))) (v : Int × Y2) : Tr ((Int × Y2) ⊕ Y2) :=
 .t (decide (v.1 < ((length k.2.2.2.1 : Nat) : Int)))
 (.c (Bool) (wmu k.1 v.1) fun r20_ =>
 .t (!r20_)
 (.c Y1 (wus (getD k.2.2.2.2.2.2 k.2.2.1 ([] : Y1)) v.1) fun r21_ =>
 .g (decide ((length v.2 + 1) * 24 ≤ 140737488355328)) <|
 .l (.inl ((wrap .i64 (v.1 + 1)), (set (v.2 ++ [[]]) (length v.2) r21_))))
 (.l (.inl ((wrap .i64 (v.1 + 1)), v.2))))
 (.l (.inr v.2))
noncomputable def wajd (k : Y1 × (Int × ((Nat) × (Y1 × (Y2 × (Y2 × Y2)))))) (v : Int × Y2) : Option Y2 := iter (fun v => (wjn k v).ev) v
noncomputable def waaw : LD := ⟨{ acts := [], S := { slots := [1, 2, 5, 6, 7, 8, 9, 10], sh := (yj [.dat y1, .box 2 0, .arr 11, .arr 12, .arr 13, .dat yi, .row 12, .dat yi]), obs := [(2, .cells (yj [.dat y1, .dat y2])), (11, .rows 24 3 yi), (12, .rows 24 3 yi), (13, .rows 24 3 yi)] } }, [(2, { acts := [], S := { slots := [1, 2, 5, 6, 7, 8], sh := (yj [.dat y1, .box 2 0, .arr 11, .arr 12, .arr 13, .dat yi]), obs := [(2, .cells (yj [.dat y1, .dat y2])), (11, .rows 24 3 yi), (12, .rows 24 3 yi), (13, .rows 24 3 yi)] } })], (yh [] .nil), Y1 × (Int × ((Nat) × (Y1 × (Y2 × (Y2 × Y2))))), Int × Y2, List Y1, fun k v => ((k.1, ((), ((), ((), ((), (k.2.1, (k.2.2.1, (v.1, ())))))))), ((k.2.2.2.1, (k.2.2.2.2.1, ())), (k.2.2.2.2.2.1, (k.2.2.2.2.2.2, (v.2, ()))))), fun t => (t.1.1, (t.1.2.2.2.2.2.1, (t.1.2.2.2.2.2.2.1, (t.2.1.1, (t.2.1.2.1, (t.2.2.1, t.2.2.2.1)))))), fun t => (t.1.2.2.2.2.2.2.2.1, t.2.2.2.2.1), wjn, fun k r => .l (.exit 2 (wbd ({ slots := [1, 2, 5, 6, 7, 8], sh := (yj [.dat y1, .box 2 0, .arr 11, .arr 12, .arr 13, .dat yi]), obs := [(2, .cells (yj [.dat y1, .dat y2])), (11, .rows 24 3 yi), (12, .rows 24 3 yi), (13, .rows 24 3 yi)] }) ((k.1, ((), ((), ((), ((), (k.2.1, ())))))), ((k.2.2.2.1, (k.2.2.2.2.1, ())), (k.2.2.2.2.2.1, (k.2.2.2.2.2.2, (r, ())))))))⟩
noncomputable def wcr (k : Y1 × (Int × (Y1 × (Y2 × (Y2 × (Y2 × Y1)))))) (v : Int × Y2) : Tr ((Int × Y2) ⊕ Y2) :=
 .t (decide (v.1 < ((length k.2.2.1 : Nat) : Int)))
 (.c (Bool) (wmu k.1 v.1) fun r39_ =>
 .t (!r39_)
 (.c Y1 (wus k.2.2.2.2.2.2 v.1) fun r40_ =>
 .g (decide ((length v.2 + 1) * 24 ≤ 140737488355328)) <|
 .l (.inl ((wrap .i64 (v.1 + 1)), (set (v.2 ++ [[]]) (length v.2) r40_))))
 (.l (.inl ((wrap .i64 (v.1 + 1)), v.2))))
 (.l (.inr v.2))
noncomputable def wmx (k : Y1 × (Int × (Y1 × (Y2 × (Y2 × (Y2 × Y1)))))) (v : Int × Y2) : Option Y2 := iter (fun v => (wcr k v).ev) v
noncomputable def wkl : LD := ⟨{ acts := [], S := { slots := [1, 2, 5, 6, 7, 8, 9, 10], sh := (yj [.dat y1, .box 2 0, .arr 11, .arr 12, .arr 13, .dat yi, .arr 2112, .dat yi]), obs := [(2, .cells (yj [.dat y1, .dat y2])), (11, .rows 24 3 yi), (12, .rows 24 3 yi), (13, .rows 24 3 yi), (2112, .arr 3 yi)] } }, [(2, { acts := [], S := { slots := [1, 2, 5, 6, 7, 8], sh := (yj [.dat y1, .box 2 0, .arr 11, .arr 12, .arr 13, .dat yi]), obs := [(2, .cells (yj [.dat y1, .dat y2])), (11, .rows 24 3 yi), (12, .rows 24 3 yi), (13, .rows 24 3 yi)] } })], (yh [] .nil), Y1 × (Int × (Y1 × (Y2 × (Y2 × (Y2 × Y1))))), Int × Y2, List Y1, fun k v => ((k.1, ((), ((), ((), ((), (k.2.1, ((), (v.1, ())))))))), ((k.2.2.1, (k.2.2.2.1, ())), (k.2.2.2.2.1, (k.2.2.2.2.2.1, (v.2, (k.2.2.2.2.2.2, ())))))), fun t => (t.1.1, (t.1.2.2.2.2.2.1, (t.2.1.1, (t.2.1.2.1, (t.2.2.1, (t.2.2.2.1, t.2.2.2.2.2.1)))))), fun t => (t.1.2.2.2.2.2.2.2.1, t.2.2.2.2.1), wcr, fun k r => .l (.exit 2 (wbd ({ slots := [1, 2, 5, 6, 7, 8], sh := (yj [.dat y1, .box 2 0, .arr 11, .arr 12, .arr 13, .dat yi]), obs := [(2, .cells (yj [.dat y1, .dat y2])), (11, .rows 24 3 yi), (12, .rows 24 3 yi), (13, .rows 24 3 yi)] }) ((k.1, ((), ((), ((), ((), (k.2.1, ())))))), ((k.2.2.1, (k.2.2.2.1, ())), (k.2.2.2.2.1, (k.2.2.2.2.2.1, (r, ())))))))⟩
noncomputable def wgv (k : Y1 × (Y1 × Y2)) (v : Int × (Y2 × (Y2 × Y2))) : Tr ((Int × (Y2 × (Y2 × Y2))) ⊕ (Y2 × (Y2 × Y2))) :=
 .t (decide (v.1 < ((length k.2.1 : Nat) : Int)))
 (.c (Bool) (wmu k.1 v.1) fun r8_ =>
 .t (!r8_)
 (.c Y1 (wus k.1 v.1) fun r9_ =>
 .g (decide ((length v.2.1 + 1) * 24 ≤ 140737488355328)) <|
 .l (.inl ((wrap .i64 (v.1 + 1)), ((set (v.2.1 ++ [[]]) (length v.2.1) r9_), (v.2.2.1, v.2.2.2)))))
 (.c Y1 (waeo k.1 v.1) fun r10_ =>
 .t (decide ((0 : Int) < ((length r10_ : Nat) : Int)))
 (.g (decide ((length v.2.2.1 + 1) * 24 ≤ 140737488355328)) <|
 .c Y2 (wajd (k.1, (v.1, ((length v.2.2.1), (k.2.1, (k.2.2, (v.2.1, (set (v.2.2.1 ++ [[]]) (length v.2.2.1) r10_))))))) ((0 : Int), v.2.2.2)) fun r29_ =>
 .l (.inl ((wrap .i64 (v.1 + 1)), (v.2.1, ((set (v.2.2.1 ++ [[]]) (length v.2.2.1) r10_), r29_)))))
 (.c Y2 (wmx (k.1, (v.1, (k.2.1, (k.2.2, (v.2.1, (v.2.2.1, r10_)))))) ((0 : Int), v.2.2.2)) fun r48_ =>
 .l (.inl ((wrap .i64 (v.1 + 1)), (v.2.1, (v.2.2.1, r48_)))))))
 (.l (.inr (v.2.1, (v.2.2.1, v.2.2.2))))
noncomputable def waje (k : Y1 × (Y1 × Y2)) (v : Int × (Y2 × (Y2 × Y2))) : Option (Y2 × (Y2 × Y2)) := iter (fun v => (wgv k v).ev) v
noncomputable def waax : LD := ⟨{ acts := [], S := { slots := [1, 2, 5, 6, 7, 8], sh := (yj [.dat y1, .box 2 0, .arr 11, .arr 12, .arr 13, .dat yi]), obs := [(2, .cells (yj [.dat y1, .dat y2])), (11, .rows 24 3 yi), (12, .rows 24 3 yi), (13, .rows 24 3 yi)] } }, [(0, { acts := [], S := { slots := [5, 6, 7], sh := (yj [.arr 11, .arr 12, .arr 13]), obs := [(11, .rows 24 3 yi), (12, .rows 24 3 yi), (13, .rows 24 3 yi)] } })], (yh [] .nil), Y1 × (Y1 × Y2), Int × (Y2 × (Y2 × Y2)), Y2 × (Y2 × Y2), fun k v => ((k.1, ((), ((), ((), ((), (v.1, ())))))), ((k.2.1, (k.2.2, ())), (v.2.1, (v.2.2.1, (v.2.2.2, ()))))), fun t => (t.1.1, (t.2.1.1, t.2.1.2.1)), fun t => (t.1.2.2.2.2.2.1, (t.2.2.1, (t.2.2.2.1, t.2.2.2.2.1))), wgv, fun _ r => .l (.exit 0 (wbd ({ slots := [5, 6, 7], sh := (yj [.arr 11, .arr 12, .arr 13]), obs := [(11, .rows 24 3 yi), (12, .rows 24 3 yi), (13, .rows 24 3 yi)] }) (((), ((), ((), ()))), (r.1, (r.2.1, (r.2.2, ()))))))⟩
noncomputable def wbbp (a1_ : Y1) (a2_ : List Y1) (a3_ : Y1) : Tr Y2 :=
 .c (Y2 × (Y2 × Y2)) (waje (a3_, (a1_, a2_)) ((0 : Int), (([] : List Y1), (([] : List Y1), ([] : List Y1))))) fun r52_ =>
 .g (decide ((length r52_.1 + length r52_.2.1) * 24 ≤ 140737488355328)) <|
 .g (decide ((length (r52_.1 ++ r52_.2.1) + length r52_.2.2) * 24 ≤ 140737488355328)) <|
 .l ((r52_.1 ++ r52_.2.1) ++ r52_.2.2)
noncomputable def waqf (a1_ : Y1) (a2_ : List Y1) (a3_ : Y1) : Option Y2 := (wbbp a1_ a2_ a3_).ev
noncomputable def wbus : RetK := { acts := [.ren 13 0], res := [.tmp 4], sh := (yj [.arr 0]), obs := [(0, .rows 24 3 yi)], pins := [] }
noncomputable def wbbq : FD := yd (yj [.agg (yj [.dat y1, .dat y2]), .dat y1]) [] [] (List Y1) (fun x => waqf x.1.1.1 x.1.1.2.1 x.1.2.1) (fun r => ([.arr 0], [(0, .rows 24 3 yi r none)]))
noncomputable def wajf : Nat → Nat → List Nat := fun r i => match look [(1, [(0, [1000000]), (1, [1000000]), (2, [1000000])])] r with
 | some l => (look l i).getD []
 | none => []
noncomputable def wajg : Env := waa [(112, waix), (169, wapy), (245, wapz)]
noncomputable def wajh : List (Nat × LD) := [(2, waaw), (2, wkl), (0, waax)]
noncomputable def waji : Code := (f227.body).getD .skip
noncomputable def wjo (k : Int × (Y1 × (Y1 × Y2))) (v : Int × Int) : Tr ((Int × Int) ⊕ (Int)) :=
 .t (decide (v.2 < ((length k.2.1 : Nat) : Int)))
 (.g (inR k.1 (length k.2.2.2)) <|
 .g (inR v.2 (length k.2.1)) <|
 .g (inR (getD k.2.1 (toNat v.2) 0) (length (getD k.2.2.2 (toNat k.1) ([] : Y1)))) <|
 .g (inR k.1 (length k.2.2.2)) <|
 .g (inR v.1 (length (getD k.2.2.2 (toNat k.1) ([] : Y1)))) <|
 .t (decide ((getD (getD k.2.2.2 (toNat k.1) ([] : Y1)) (toNat (getD k.2.1 (toNat v.2) 0)) (0 : Int)) < (getD (getD k.2.2.2 (toNat k.1) ([] : Y1)) (toNat v.1) (0 : Int))))
 (.g (inR v.2 (length k.2.1)) <|
 .l (.inl ((getD k.2.1 (toNat v.2) 0), (wrap .i64 (v.2 + 1)))))
 (.l (.inl (v.1, (wrap .i64 (v.2 + 1))))))
 (.l (.inr v.1))
noncomputable def wqp (k : Int × (Y1 × (Y1 × Y2))) (v : Int × Int) : Option (Int) := iter (fun v => (wjo k v).ev) v
noncomputable def waay : LD := ⟨{ acts := [], S := { slots := [1, 2, 3, 7, 8], sh := (yj [.dat yi, .dat y1, .box 3 0, .dat yi, .dat yi]), obs := [(3, .cells (yj [.dat y1, .dat y2]))] } }, [(0, (yh [7] (yj [.dat yi])))], (yh [] .nil), Int × (Y1 × (Y1 × Y2)), Int × (Int), Int, fun k v => ((k.1, (k.2.1, ((), (v.1, (v.2, ()))))), ((k.2.2.1, (k.2.2.2, ())), ())), fun t => (t.1.1, (t.1.2.1, (t.2.1.1, t.2.1.2.1))), fun t => (t.1.2.2.2.1, t.1.2.2.2.2.1), wjo, fun _ r => .l (.exit 0 (wbd ((ys [7] (yj [.dat yi]))) ((r, ()), ())))⟩
noncomputable def wbbr (a1_ : Y1) (a2_ : List Y1) (a3_ : Int) (a4_ : Y1) : Tr (Int) :=
 .g (inR 0 (length a4_)) <|
 .c (Int) (wqp (a3_, (a4_, (a1_, a2_))) ((getD a4_ (toNat 0) 0), (1 : Int))) fun r8_ =>
 .l r8_
noncomputable def waqg (a1_ : Y1) (a2_ : List Y1) (a3_ : Int) (a4_ : Y1) : Option (Int) := (wbbr a1_ a2_ a3_ a4_).ev
noncomputable def wbut : RetK := yr [.tmp 6] (yj [.dat yi])
noncomputable def wbbs : FD := yd (yj [.agg (yj [.dat y1, .dat y2]), .dat yi, .dat y1]) [] [] Int (fun x => waqg x.1.1.1 x.1.1.2.1 x.1.2.1 x.1.2.2.1) (fun r => ([.dat yi r], []))
noncomputable def wbbt : Env := waa []
noncomputable def wbbu : List (Nat × LD) := [(0, waay)]
noncomputable def wbbv : Code := (f262.body).getD .skip
noncomputable def wbbw (a1_ : Y1) (a2_ : List Y1) (a3_ : Int) (a4_ : Y1) : Tr (Int) :=
 .g (inR a3_ (length a2_)) <|
 .c (Int) (waqg a1_ a2_ a3_ a4_) fun r1_ =>
 .g (inR r1_ (length (getD a2_ (toNat a3_) ([] : Y1)))) <|
 .l (getD (getD a2_ (toNat a3_) ([] : Y1)) (toNat r1_) (0 : Int))
noncomputable def waqh (a1_ : Y1) (a2_ : List Y1) (a3_ : Int) (a4_ : Y1) : Option (Int) := (wbbw a1_ a2_ a3_ a4_).ev
noncomputable def wbuu : RetK := yr [.tmp 6] (yj [.dat yi])
noncomputable def wbbx : FD := yd (yj [.agg (yj [.dat y1, .dat y2]), .dat yi, .dat y1]) [] [] Int (fun x => waqh x.1.1.1 x.1.1.2.1 x.1.2.1 x.1.2.2.1) (fun r => ([.dat yi r], []))
noncomputable def wmy (k : Y1 × (Y1 × Y2)) (v : Int × Int) : Tr ((Int × Int) ⊕ (Int)) :=
 .t (decide (v.2 < ((length k.2.2 : Nat) : Int)))
 (.c (Int) (waqh k.2.1 k.2.2 v.2 k.1) fun r6_ =>
 .l (.inl ((wrap .i64 (v.1 + r6_)), (wrap .i64 (v.2 + 1)))))
 (.l (.inr v.1))
noncomputable def wajj (k : Y1 × (Y1 × Y2)) (v : Int × Int) : Option (Int) := iter (fun v => (wmy k v).ev) v
noncomputable def waaz : LD := ⟨{ acts := [], S := { slots := [1, 2, 5, 6], sh := (yj [.dat y1, .box 2 0, .dat yi, .dat yi]), obs := [(2, .cells (yj [.dat y1, .dat y2]))] } }, [(0, (yh [5] (yj [.dat yi])))], (yh [] .nil), Y1 × (Y1 × Y2), Int × (Int), Int, fun k v => ((k.1, ((), (v.1, (v.2, ())))), ((k.2.1, (k.2.2, ())), ())), fun t => (t.1.1, (t.2.1.1, t.2.1.2.1)), fun t => (t.1.2.2.1, t.1.2.2.2.1), wmy, fun _ r => .l (.exit 0 (wbd ((ys [5] (yj [.dat yi]))) ((r, ()), ())))⟩
noncomputable def wbby (a1_ : Y1) (a2_ : List Y1) (a3_ : Y1) : Tr (Int) :=
 .c (Int) (wajj (a3_, (a1_, a2_)) ((0 : Int), (0 : Int))) fun r8_ =>
 .l r8_
noncomputable def waqi (a1_ : Y1) (a2_ : List Y1) (a3_ : Y1) : Option (Int) := (wbby a1_ a2_ a3_).ev
noncomputable def wbuv : RetK := yr [.tmp 4] (yj [.dat yi])
noncomputable def wbbz : FD := yd (yj [.agg (yj [.dat y1, .dat y2]), .dat y1]) [] [] Int (fun x => waqi x.1.1.1 x.1.1.2.1 x.1.2.1) (fun r => ([.dat yi r], []))
noncomputable def wbca : Env := waa [(239, wbbx)]
noncomputable def wbcb : List (Nat × LD) := [(0, waaz)]
noncomputable def wbcc : Code := (f190.body).getD .skip
noncomputable def wmz (k : Y1 × (Y1 × Y2)) (v : Int × Int) : Tr ((Int × Int) ⊕ (Int)) :=
 .t (decide (v.2 < ((length k.1 : Nat) : Int)))
 (.g (inR v.2 (length k.1)) <|
 .g (inR (getD k.1 (toNat v.2) 0) (length k.2.1)) <|
 .l (.inl ((wrap .i64 (v.1 + (getD k.2.1 (toNat (getD k.1 (toNat v.2) 0)) (0 : Int)))), (wrap .i64 (v.2 + 1)))))
 (.l (.inr v.1))
noncomputable def wajk (k : Y1 × (Y1 × Y2)) (v : Int × Int) : Option (Int) := iter (fun v => (wmz k v).ev) v
noncomputable def waba : LD := ⟨{ acts := [], S := { slots := [1, 2, 5, 6], sh := (yj [.dat y1, .box 2 0, .dat yi, .dat yi]), obs := [(2, .cells (yj [.dat y1, .dat y2]))] } }, [(0, (yh [5] (yj [.dat yi])))], (yh [] .nil), Y1 × (Y1 × Y2), Int × (Int), Int, fun k v => ((k.1, ((), (v.1, (v.2, ())))), ((k.2.1, (k.2.2, ())), ())), fun t => (t.1.1, (t.2.1.1, t.2.1.2.1)), fun t => (t.1.2.2.1, t.1.2.2.2.1), wmz, fun _ r => .l (.exit 0 (wbd ((ys [5] (yj [.dat yi]))) ((r, ()), ())))⟩
noncomputable def wbcd (a1_ : Y1) (a2_ : List Y1) (a3_ : Y1) : Tr (Int) :=
 .c (Int) (wajk (a3_, (a1_, a2_)) ((0 : Int), (0 : Int))) fun r7_ =>
 .l r7_
noncomputable def waqj (a1_ : Y1) (a2_ : List Y1) (a3_ : Y1) : Option (Int) := (wbcd a1_ a2_ a3_).ev
noncomputable def wbuw : RetK := yr [.tmp 4] (yj [.dat yi])
noncomputable def wbce : FD := yd (yj [.agg (yj [.dat y1, .dat y2]), .dat y1]) [] [] Int (fun x => waqj x.1.1.1 x.1.1.2.1 x.1.2.1) (fun r => ([.dat yi r], []))
noncomputable def wbcf : Env := waa []
noncomputable def wbcg : List (Nat × LD) := [(0, waba)]
noncomputable def wbch : Code := (f191.body).getD .skip
noncomputable def wbci (a1_ : Y1) (a2_ : List Y1) (a3_ : Y1) : Tr (Int) :=
 .c (Int) (waqi a1_ a2_ a3_) fun r1_ =>
 .c (Int) (waqj a1_ a2_ a3_) fun r2_ =>
 .l (wrap .i64 (r1_ + r2_))
noncomputable def wqq (a1_ : Y1) (a2_ : List Y1) (a3_ : Y1) : Option (Int) := (wbci a1_ a2_ a3_).ev
noncomputable def wbux : RetK := yr [.tmp 4] (yj [.dat yi])
noncomputable def waqk : FD := yd (yj [.agg (yj [.dat y1, .dat y2]), .dat y1]) [] [] Int (fun x => wqq x.1.1.1 x.1.1.2.1 x.1.2.1) (fun r => ([.dat yi r], []))
noncomputable def wjp (k : Y1 × (Y1 × (Y2 × Y2))) (v : Int) : Tr ((Int) ⊕ ((Unit) ⊕ (Nat))) :=
 .t (decide (v < ((length k.2.2.2 : Nat) : Int)))
 (.g (inR v (length k.2.2.2)) <|
 .g (decide ((toNat v) < length k.2.2.2)) <|
 .c (Int) (wqq k.2.1 k.2.2.1 (getD k.2.2.2 (toNat v) ([] : Y1))) fun r7_ =>
 .c (Int) (wqq k.2.1 k.2.2.1 k.1) fun r8_ =>
 .t (decide (r7_ < r8_))
 (.g (inR v (length k.2.2.2)) <|
 .g (decide ((toNat v) < length k.2.2.2)) <|
 .l (.inr (.inr (toNat v))))
 (.l (.inl (wrap .i64 (v + 1)))))
 (.l (.inr (.inl ())))
noncomputable def wajl (k : Y1 × (Y1 × (Y2 × Y2))) (v : Int) : Option ((Unit) ⊕ (Nat)) := iter (fun v => (wjp k v).ev) v
noncomputable def wabb : LD := ⟨{ acts := [], S := { slots := [1, 2, 6, 7], sh := (yj [.dat y1, .box 2 0, .arr 640, .dat yi]), obs := [(2, .cells (yj [.dat y1, .dat y2])), (640, .rows 24 3 yi)] } }, [(0, (yh [] .nil))], { acts := [], S := { slots := [4, 5], sh := (yj [.row 640, .dat .bool]), obs := [(640, .rows 24 3 yi)] } }, Y1 × (Y1 × (Y2 × Y2)), Int, (Unit) ⊕ (Nat), fun k v => ((k.1, ((), ((), (v, ())))), ((k.2.1, (k.2.2.1, ())), (k.2.2.2, ()))), fun t => (t.1.1, (t.2.1.1, (t.2.1.2.1, t.2.2.1))), fun t => t.1.2.2.2.1, wjp, fun k r => .s (Unit) (Nat) r (fun _ => .l (.exit 0 (wbd ((ys [] .nil)) ((), ())))) (fun b => .l (.ret (wbd ({ slots := [4, 5], sh := (yj [.row 640, .dat .bool]), obs := [(640, .rows 24 3 yi)] }) ((b, (true, ())), (k.2.2.2, ())))))⟩
noncomputable def wbcj (a1_ : Y1) (a2_ : List Y1) (a3_ : Y1) : Tr (Bool × Y1) :=
 .c Y2 (waqf a1_ a2_ a3_) fun r1_ =>
 .c ((Unit) ⊕ (Nat)) (wajl (a3_, (a1_, (a2_, r1_))) (0 : Int)) fun r12_ =>
 .s (Unit) (Nat) r12_
 (fun _ => .l (false, ([] : Y1)))
 (fun r14_ => .l (true, (getD r1_ r14_ ([] : Y1))))
noncomputable def wajm (a1_ : Y1) (a2_ : List Y1) (a3_ : Y1) : Option (Bool × Y1) := (wbcj a1_ a2_ a3_).ev
noncomputable def wbuy : RetK := { acts := [.pull 4 800000, .ren 31 0, .ren 800000 0], res := [.tmp 4, .tmp 5], sh := (yj [.arr 0, .dat .bool]), obs := [(0, .arr 3 yi)], pins := [] }
noncomputable def wbck : FD := yd (yj [.agg (yj [.dat y1, .dat y2]), .dat y1]) [] [] (Bool × Y1) (fun x => wajm x.1.1.1 x.1.1.2.1 x.1.2.1) (fun r => ([.arr 0, .dat .bool r.1], [(0, .arr 3 yi r.2)]))
noncomputable def wbcl : Env := waa [(227, wbbq), (192, waqk)]
noncomputable def wbcm : List (Nat × LD) := [(0, wabb)]
noncomputable def wbcn : Code := (f172.body).getD .skip
noncomputable def wna (k : Y1 × Y2) (v : Int × (Bool × (Y1 × Y1))) : Tr ((Int × (Bool × (Y1 × Y1))) ⊕ (Int × Y1)) :=
 .t v.2.1
 (.c (Bool × Y1) (wajm k.1 k.2 v.2.2.2) fun r10_ =>
 .l (.inl ((wrap .i64 (v.1 + 1)), (r10_.1, (v.2.2.2, r10_.2)))))
 (.l (.inr (v.1, v.2.2.1)))
noncomputable def wnb (k : Y1 × Y2) (v : Int × (Bool × (Y1 × Y1))) : Option (Int × Y1) := iter (fun v => (wna k v).ev) v
noncomputable def wabc : LD := ⟨{ acts := [.drop 900707, .pin 7 900707, .pin 9 900709], S := { slots := [2, 7, 8, 9, 10], sh := (yj [.box 2 0, .arr 900707, .dat yi, .arr 900709, .dat .bool]), obs := [(2, .cells (yj [.dat y1, .dat y2])), (900707, .arr 3 yi), (900709, .arr 3 yi)] } }, [(0, { acts := [], S := { slots := [7, 8], sh := (yj [.arr 900707, .dat yi]), obs := [(900707, .arr 3 yi)] } })], (yh [] .nil), Y1 × Y2, Int × (Bool × (Y1 × Y1)), Int × Y1, fun k v => (((), ((), (v.1, ((), (v.2.1, ()))))), ((k.1, (k.2, ())), (v.2.2.1, (v.2.2.2, ())))), fun t => (t.2.1.1, t.2.1.2.1), fun t => (t.1.2.2.1, (t.1.2.2.2.2.1, (t.2.2.1, t.2.2.2.1))), wna, fun _ r => .l (.exit 0 (wbd ({ slots := [7, 8], sh := (yj [.arr 900707, .dat yi]), obs := [(900707, .arr 3 yi)] }) (((), (r.1, ())), (r.2, ()))))⟩
noncomputable def wbco (a1_ : Y1) (a2_ : List Y1) (a3_ : Y1) : Tr (Int × (Bool × Y1)) :=
 .c (Bool) (waqe a1_ a2_ a3_) fun r1_ =>
 .t (!r1_)
 (.l ((0 : Int), (false, ([] : Y1))))
 (.c Y1 (woi a3_) fun r2_ =>
 .c (Bool × Y1) (wajm a1_ a2_ r2_) fun r3_ =>
 .c (Int × Y1) (wnb (a1_, a2_) ((0 : Int), (r3_.1, (r2_, r3_.2)))) fun r13_ =>
 .l (r13_.1, (true, r13_.2)))
noncomputable def waql (a1_ : Y1) (a2_ : List Y1) (a3_ : Y1) : Option (Int × (Bool × Y1)) := (wbco a1_ a2_ a3_).ev
noncomputable def wbuz : RetK := { acts := [.ren 15 0, .ren 900707 0], res := [.tmp 4, .tmp 5, .tmp 6], sh := (yj [.arr 0, .dat yi, .dat .bool]), obs := [(0, .arr 3 yi)], pins := [] }
noncomputable def wbcp : FD := yd (yj [.agg (yj [.dat y1, .dat y2]), .dat y1]) [] [] (Int × (Bool × Y1)) (fun x => waql x.1.1.1 x.1.1.2.1 x.1.2.1) (fun r => ([.arr 0, .dat yi r.1, .dat .bool r.2.1], [(0, .arr 3 yi r.2.2)]))
noncomputable def wbcq : Env := waa [(101, wbbo), (173, waen), (172, wbck)]
noncomputable def wbcr : List (Nat × LD) := [(0, wabc)]
noncomputable def wbcs : Code := (f78.body).getD .skip
noncomputable def wqr (k : Int × Int) (v : Int × Y1) : Tr ((Int × Y1) ⊕ Y1) :=
 .t (decide (v.1 < k.1))
 (.g (decide (0 ≤ v.1)) <|
 .t ((wrap .i64 (BitVec.toNat ((BitVec.ofInt (IntKind.bits .i64) (Int.fdiv k.2 (2 ^ (min (toNat v.1) (IntKind.bits .i64))))) &&& (BitVec.ofInt (IntKind.bits .i64) (1 : Int))))) == (1 : Int))
 (.g (decide ((length v.2 + length ([v.1] : Y1)) * 8 ≤ 140737488355328)) <|
 .l (.inl ((wrap .i64 (v.1 + 1)), (v.2 ++ ([v.1] : Y1)))))
 (.l (.inl ((wrap .i64 (v.1 + 1)), v.2))))
 (.l (.inr v.2))
noncomputable def wxv (k : Int × Int) (v : Int × Y1) : Option Y1 := iter (fun v => (wqr k v).ev) v
noncomputable def wabd : LD := ⟨{ acts := [], S := { slots := [0, 1, 5, 6], sh := (yj [.dat yi, .dat yi, .arr 7, .dat yi]), obs := [(7, .arr 3 yi)] } }, [(0, { acts := [], S := { slots := [5], sh := (yj [.arr 7]), obs := [(7, .arr 3 yi)] } })], (yh [] .nil), Int × (Int), Int × Y1, Y1, fun k v => ((k.1, (k.2, ((), (v.1, ())))), (v.2, ())), fun t => (t.1.1, t.1.2.1), fun t => (t.1.2.2.2.1, t.2.1), wqr, fun _ r => .l (.exit 0 (wbd ({ slots := [5], sh := (yj [.arr 7]), obs := [(7, .arr 3 yi)] }) (((), ()), (r, ()))))⟩
noncomputable def waqm (a1_ : Int) (a2_ : Int) : Tr Y1 :=
 .c Y1 (wxv (a1_, a2_) ((0 : Int), ([] : Y1))) fun r6_ =>
 .l r6_
noncomputable def waqn (a1_ : Int) (a2_ : Int) : Option Y1 := (waqm a1_ a2_).ev
noncomputable def wbva : RetK := { acts := [.ren 7 0], res := [.tmp 4], sh := (yj [.arr 0]), obs := [(0, .arr 3 yi)], pins := [] }
noncomputable def wbct : FD := yd (yj [.dat yi, .dat yi]) [] [] Y1 (fun x => waqn x.1.1 x.1.2.1) (fun r => ([.arr 0], [(0, .arr 3 yi r)]))
noncomputable def wbcu : Env := waa []
noncomputable def wbcv : List (Nat × LD) := [(0, wabd)]
noncomputable def wbcw : Code := (f119.body).getD .skip
noncomputable def wqs (k : Y1 × Y1) (v : Int) : Tr ((Int) ⊕ ((Unit) ⊕ (Bool))) :=
 .t (decide (v < ((length k.1 : Nat) : Int)))
 (.g (inR v (length k.1)) <|
 .g (inR v (length k.2)) <|
 .t ((getD k.1 (toNat v) 0) != (getD k.2 (toNat v) 0))
 (.g (inR v (length k.1)) <|
 .g (inR v (length k.2)) <|
 .l (.inr (.inr (decide ((getD k.1 (toNat v) 0) < (getD k.2 (toNat v) 0))))))
 (.l (.inl (wrap .i64 (v + 1)))))
 (.l (.inr (.inl ())))
noncomputable def wxw (k : Y1 × Y1) (v : Int) : Option ((Unit) ⊕ (Bool)) := iter (fun v => (wqs k v).ev) v
noncomputable def wabe : LD := ⟨(yh [0, 1, 5] (yj [.dat y1, .dat y1, .dat yi])), [(0, (yh [] .nil))], (yh [4] (yj [.dat .bool])), Y1 × Y1, Int, (Unit) ⊕ (Bool), fun k v => ((k.1, (k.2, (v, ()))), ()), fun t => (t.1.1, t.1.2.1), fun t => t.1.2.2.1, wqs, fun _ r => .s (Unit) (Bool) r (fun _ => .l (.exit 0 (wbd ((ys [] .nil)) ((), ())))) (fun b => .l (.ret (wbd ((ys [4] (yj [.dat .bool]))) ((b, ()), ()))))⟩
noncomputable def waqo (a1_ : Y1) (a2_ : Y1) : Tr (Bool) :=
 .t (((length a1_ : Nat) : Int) != ((length a2_ : Nat) : Int))
 (.l (decide (((length a1_ : Nat) : Int) < ((length a2_ : Nat) : Int))))
 (.c ((Unit) ⊕ (Bool)) (wxw (a1_, a2_) (0 : Int)) fun r5_ =>
 .s (Unit) (Bool) r5_
 (fun _ => .l false)
 (fun r7_ => .l r7_))
noncomputable def waqp (a1_ : Y1) (a2_ : Y1) : Option (Bool) := (waqo a1_ a2_).ev
noncomputable def wbvb : RetK := yr [.tmp 4] (yj [.dat .bool])
noncomputable def wbcx : FD := yd (yj [.dat y1, .dat y1]) [] [] Bool (fun x => waqp x.1.1 x.1.2.1) (fun r => ([.dat .bool r], []))
noncomputable def wbcy : Env := waa []
noncomputable def wbcz : List (Nat × LD) := [(0, wabe)]
noncomputable def wbda : Code := (f189.body).getD .skip
noncomputable def wqt (k : Int × (Y2 × (Int × Y1))) (v : Int) : Tr ((Int) ⊕ (Int)) :=
 .t (decide (0 < v))
 (.g (inR (wrap .i64 (v - 1)) (length k.2.1)) <|
 .c (Bool) (waqp k.2.2.2 (getD k.2.1 (toNat (wrap .i64 (v - 1))) ([] : Y1))) fun r26_ =>
 .t r26_
 (.l (.inl (wrap .i64 (v - 1))))
 (.l (.inr v)))
 (.l (.inr v))
noncomputable def wxx (k : Int × (Y2 × (Int × Y1))) (v : Int) : Option (Int) := iter (fun v => (wqt k v).ev) v
noncomputable def wabf : LD := ⟨{ acts := [], S := { slots := [0, 3, 4, 5, 6], sh := (yj [.dat yi, .dat y2, .dat yi, .arr 1024, .dat yi]), obs := [(1024, .arr 3 yi)] } }, [(2, { acts := [], S := { slots := [0, 3, 4, 5, 6], sh := (yj [.dat yi, .dat y2, .dat yi, .arr 1024, .dat yi]), obs := [(1024, .arr 3 yi)] } })], (yh [] .nil), Int × (Y2 × (Int × Y1)), Int, Int, fun k v => ((k.1, (k.2.1, (k.2.2.1, ((), (v, ()))))), (k.2.2.2, ())), fun t => (t.1.1, (t.1.2.1, (t.1.2.2.1, t.2.1))), fun t => t.1.2.2.2.2.1, wqt, fun k r => .l (.exit 2 (wbd ({ slots := [0, 3, 4, 5, 6], sh := (yj [.dat yi, .dat y2, .dat yi, .arr 1024, .dat yi]), obs := [(1024, .arr 3 yi)] }) ((k.1, (k.2.1, (k.2.2.1, ((), (r, ()))))), (k.2.2.2, ()))))⟩
noncomputable def wqu (k : Int) (v : Y2 × Int) : Tr ((Y2 × Int) ⊕ Y2) :=
 .g (decide (0 ≤ k)) <|
 .t (decide (v.2 < (wrap .i64 ((1 : Int) * 2 ^ (min (toNat k) (IntKind.bits .i64))))))
 (.c Y1 (waqn k v.2) fun r20_ =>
 .c (Int) (wxx (k, (v.1, (v.2, r20_))) ((length v.1 : Nat) : Int)) fun r32_ =>
 .g (decide (0 ≤ r32_) && decide (r32_ ≤ ((length v.1 : Nat) : Int))) <|
 .g (decide ((length ([] : List Y1) + length (List.drop 0 (List.take (toNat r32_) v.1))) * 24 ≤ 140737488355328)) <|
 .g (decide ((length (([] : List Y1) ++ (List.drop 0 (List.take (toNat r32_) v.1))) + length ([r20_] : List Y1)) * 24 ≤ 140737488355328)) <|
 .g (decide (0 ≤ r32_) && decide (r32_ ≤ ((length v.1 : Nat) : Int))) <|
 .g (decide ((length ((([] : List Y1) ++ (List.drop 0 (List.take (toNat r32_) v.1))) ++ ([r20_] : List Y1)) + length (List.drop (toNat r32_) (List.take (length v.1) v.1))) * 24 ≤ 140737488355328)) <|
 .l (.inl ((((([] : List Y1) ++ (List.drop 0 (List.take (toNat r32_) v.1))) ++ ([r20_] : List Y1)) ++ (List.drop (toNat r32_) (List.take (length v.1) v.1))), (wrap .i64 (v.2 + 1)))))
 (.l (.inr v.1))
noncomputable def wxy (k : Int) (v : Y2 × Int) : Option Y2 := iter (fun v => (wqu k v).ev) v
noncomputable def wabg : LD := ⟨{ acts := [.fz 7, .fz 32], S := (ys [0, 3, 4] (yj [.dat yi, .dat y2, .dat yi])) }, [(0, (yh [3] (yj [.dat y2])))], (yh [] .nil), Int, Y2 × (Int), List Y1, fun k v => ((k, (v.1, (v.2, ()))), ()), fun t => t.1.1, fun t => (t.1.2.1, t.1.2.2.1), wqu, fun _ r => .l (.exit 0 (wbd ((ys [3] (yj [.dat y2]))) ((r, ()), ())))⟩
noncomputable def waqq (a1_ : Int) : Tr Y2 :=
 .c Y2 (wxy a1_ (([] : List Y1), (1 : Int))) fun r34_ =>
 .l r34_
noncomputable def wajn (a1_ : Int) : Option Y2 := (waqq a1_).ev
noncomputable def wbvc : RetK := yr [.tmp 2] (yj [.dat y2])
noncomputable def wbdb : FD := yd (yj [.dat yi]) [] [] (List Y1) (fun x => wajn x.1.1) (fun r => ([.dat y2 r], []))
noncomputable def waqr : Nat → Nat → List Nat := fun r i => match look [(8, [(0, [3, 5])])] r with
 | some l => (look l i).getD []
 | none => []
noncomputable def waqs : Env := waa [(119, wbct), (189, wbcx)]
noncomputable def waqt : List (Nat × LD) := [(2, wabf), (0, wabg)]
noncomputable def waqu : Code := (f96.body).getD .skip
noncomputable def wnc (k : Y2 × (Y1 × Y2)) (v : Y1 × Int) : Tr ((Y1 × Int) ⊕ Y1) :=
 .t (decide (v.2 < ((length k.1 : Nat) : Int)))
 (.g (inR v.2 (length k.1)) <|
 .c (Int) (wqq k.2.1 k.2.2 (getD k.1 (toNat v.2) ([] : Y1))) fun r7_ =>
 .c (Int) (wqq k.2.1 k.2.2 v.1) fun r8_ =>
 .t (decide (r7_ < r8_))
 (.g (inR v.2 (length k.1)) <|
 .l (.inl ((getD k.1 (toNat v.2) ([] : Y1)), (wrap .i64 (v.2 + 1)))))
 (.l (.inl (v.1, (wrap .i64 (v.2 + 1))))))
 (.l (.inr v.1))
noncomputable def wajo (k : Y2 × (Y1 × Y2)) (v : Y1 × Int) : Option Y1 := iter (fun v => (wnc k v).ev) v
noncomputable def wabh : LD := ⟨{ acts := [], S := { slots := [1, 3, 4, 5], sh := (yj [.box 1 0, .dat y2, .dat y1, .dat yi]), obs := [(1, .cells (yj [.dat y1, .dat y2]))] } }, [(0, (yh [4] (yj [.dat y1])))], (yh [] .nil), Y2 × (Y1 × Y2), Y1 × (Int), Y1, fun k v => (((), (k.1, (v.1, (v.2, ())))), ((k.2.1, (k.2.2, ())), ())), fun t => (t.1.2.1, (t.2.1.1, t.2.1.2.1)), fun t => (t.1.2.2.1, t.1.2.2.2.1), wnc, fun _ r => .l (.exit 0 (wbd ((ys [4] (yj [.dat y1]))) ((r, ()), ())))⟩
noncomputable def wbdc (a1_ : Y1) (a2_ : List Y1) : Tr Y1 :=
 .c Y2 (wajn ((length a1_ : Nat) : Int)) fun r1_ =>
 .g (inR 0 (length r1_)) <|
 .c Y1 (wajo (r1_, (a1_, a2_)) ((getD r1_ (toNat 0) ([] : Y1)), (1 : Int))) fun r10_ =>
 .l r10_
noncomputable def waqv (a1_ : Y1) (a2_ : List Y1) : Option Y1 := (wbdc a1_ a2_).ev
noncomputable def wbvd : RetK := yr [.tmp 2] (yj [.dat y1])
noncomputable def wbdd : FD := yd (yj [.agg (yj [.dat y1, .dat y2])]) [] [] Y1 (fun x => waqv x.1.1.1 x.1.1.2.1) (fun r => ([.dat y1 r], []))
noncomputable def wbde : Env := waa [(96, wbdb), (192, waqk)]
noncomputable def wbdf : List (Nat × LD) := [(0, wabh)]
noncomputable def wbdg : Code := (f247.body).getD .skip
noncomputable def wnd (k : Int × (Int × (Int × (Int × (Y1 × (Int × (Int × (Y1 × (Y1 × (Y1 × Y1)))))))))) (v : Int × Y2) : Tr ((Int × Y2) ⊕ Y2) :=
 .t (decide (v.1 < ((length k.2.2.2.2.1 : Nat) : Int)))
 (.g (inR v.1 (length v.2)) <|
 .g (decide ((toNat v.1) < length v.2)) <|
 .g (inR v.1 (length k.2.2.2.2.1)) <|
 .g (decide ((length (getD v.2 (toNat v.1) ([] : Y1)) + length ([(getD k.2.2.2.2.1 (toNat v.1) 0)] : Y1)) * 8 ≤ 140737488355328)) <|
 .g (inR v.1 (length v.2)) <|
 .g (decide ((toNat v.1) < length v.2) && decide ((toNat v.1) = (toNat v.1))) <|
 .l (.inl ((wrap .i64 (v.1 + 1)), (set v.2 (toNat v.1) ((getD v.2 (toNat v.1) ([] : Y1)) ++ ([(getD k.2.2.2.2.1 (toNat v.1) 0)] : Y1))))))
 (.l (.inr v.2))
noncomputable def wxz (k : Int × (Int × (Int × (Int × (Y1 × (Int × (Int × (Y1 × (Y1 × (Y1 × Y1)))))))))) (v : Int × Y2) : Option Y2 := iter (fun v => (wnd k v).ev) v
noncomputable def wabi : LD := ⟨{ acts := [.ownB 4 0 901340 3 yi, .ownB 4 2 901342 3 yi], S := { slots := [3, 4, 5, 6], sh := (yj [.box 3 0, .box 4 0, .box 5 0, .dat yi]), obs := [(3, .cells (yj [.dat yi, .dat yi, .dat yi, .dat yi, .dat y1])), (4, .cells (yj [.arr 901340, .nilsl, .arr 901342, .dat yi])), (5, .cells (yj [.arr 708, .arr 709, .arr 710, .dat yi])), (901340, .arr 3 yi), (901342, .arr 3 yi), (708, .arr 3 yi), (709, .rows 24 3 yi), (710, .arr 3 yi)] } }, [(1, { acts := [], S := { slots := [4, 5], sh := (yj [.box 4 0, .box 5 0]), obs := [(4, .cells (yj [.arr 901340, .nilsl, .arr 901342, .dat yi])), (5, .cells (yj [.arr 708, .arr 709, .arr 710, .dat yi])), (901340, .arr 3 yi), (901342, .arr 3 yi), (708, .arr 3 yi), (709, .rows 24 3 yi), (710, .arr 3 yi)] } })], (yh [] .nil), Int × (Int × (Int × (Int × (Y1 × (Int × (Int × (Y1 × (Y1 × (Y1 × Y1))))))))), Int × Y2, List Y1, fun k v => (((), ((), ((), (v.1, ())))), ((k.1, (k.2.1, (k.2.2.1, (k.2.2.2.1, (k.2.2.2.2.1, ()))))), (((), ((), ((), (k.2.2.2.2.2.1, ())))), (((), ((), ((), (k.2.2.2.2.2.2.1, ())))), (k.2.2.2.2.2.2.2.1, (k.2.2.2.2.2.2.2.2.1, (k.2.2.2.2.2.2.2.2.2.1, (v.2, (k.2.2.2.2.2.2.2.2.2.2, ()))))))))), fun t => (t.2.1.1, (t.2.1.2.1, (t.2.1.2.2.1, (t.2.1.2.2.2.1, (t.2.1.2.2.2.2.1, (t.2.2.1.2.2.2.1, (t.2.2.2.1.2.2.2.1, (t.2.2.2.2.1, (t.2.2.2.2.2.1, (t.2.2.2.2.2.2.1, t.2.2.2.2.2.2.2.2.1)))))))))), fun t => (t.1.2.2.2.1, t.2.2.2.2.2.2.2.1), wnd, fun k r => .l (.exit 1 (wbd ({ slots := [4, 5], sh := (yj [.box 4 0, .box 5 0]), obs := [(4, .cells (yj [.arr 901340, .nilsl, .arr 901342, .dat yi])), (5, .cells (yj [.arr 708, .arr 709, .arr 710, .dat yi])), (901340, .arr 3 yi), (901342, .arr 3 yi), (708, .arr 3 yi), (709, .rows 24 3 yi), (710, .arr 3 yi)] }) (((), ((), ())), (((), ((), ((), (k.2.2.2.2.2.1, ())))), (((), ((), ((), (k.2.2.2.2.2.2.1, ())))), (k.2.2.2.2.2.2.2.1, (k.2.2.2.2.2.2.2.2.1, (k.2.2.2.2.2.2.2.2.2.1, (r, (k.2.2.2.2.2.2.2.2.2.2, ()))))))))))⟩
noncomputable def wbdh (a1_ : Y1) (a2_ : List Y1) (a3_ : Y1) (a4_ : Int) (a5_ : Int) (a6_ : Int) (a7_ : Int) (a8_ : Int) (a9_ : Y1) : Tr (Int × (Y1 × (Y2 × Y1))) :=
 .c (Int × (Y1 × (Y2 × Y1))) (waiz a1_ a2_ a3_ a4_) fun r1_ =>
 .t (a5_ == 1)
 (.c Y1 (wus r1_.2.2.2 a6_) fun r2_ =>
 .l (r1_.1, (r1_.2.1, (r1_.2.2.1, r2_))))
 (.t (a5_ == 2)
 (.c Y1 (waeo r1_.2.2.2 a6_) fun r3_ =>
 .l (r1_.1, (r1_.2.1, (r1_.2.2.1, r3_))))
 (.t (a5_ == 3)
 (.c Y1 (waeo r1_.2.2.2 a6_) fun r4_ =>
 .c Y1 (wus r4_ a7_) fun r5_ =>
 .l (r1_.1, (r1_.2.1, (r1_.2.2.1, r5_))))
 (.t (a5_ == 4)
 (.g (inR a6_ (length r1_.2.1)) <|
 .g (decide ((toNat a6_) < length r1_.2.1)) <|
 .l (r1_.1, ((set r1_.2.1 (toNat a6_) a7_), (r1_.2.2.1, r1_.2.2.2))))
 (.t (a5_ == 5)
 (.g (inR a6_ (length r1_.2.2.1)) <|
 .g (decide ((toNat a6_) < length r1_.2.2.1)) <|
 .g (inR a7_ (length (getD r1_.2.2.1 (toNat a6_) ([] : Y1)))) <|
 .g (decide ((toNat a7_) < length (getD r1_.2.2.1 (toNat a6_) ([] : Y1)))) <|
 .l (r1_.1, (r1_.2.1, ((set r1_.2.2.1 (toNat a6_) (set (getD r1_.2.2.1 (toNat a6_) ([] : Y1)) (toNat a7_) a8_)), r1_.2.2.2))))
 (.t (a5_ == 6)
 (.g (decide ((length r1_.2.1 + length ([a6_] : Y1)) * 8 ≤ 140737488355328)) <|
 .c Y2 (wxz (a5_, (a6_, (a7_, (a8_, (a9_, ((0 : Int), (r1_.1, (([] : Y1), (([] : Y1), ((r1_.2.1 ++ ([a6_] : Y1)), r1_.2.2.2)))))))))) ((0 : Int), r1_.2.2.1)) fun r26_ =>
 .l (r1_.1, ((r1_.2.1 ++ ([a6_] : Y1)), (r26_, r1_.2.2.2))))
 (.t (a5_ == 7)
 (.c Y1 (woi a9_) fun r27_ =>
 .g (decide ((length r1_.2.2.1 + 1) * 24 ≤ 140737488355328)) <|
 .l (r1_.1, (r1_.2.1, ((set (r1_.2.2.1 ++ [[]]) (length r1_.2.2.1) r27_), r1_.2.2.2))))
 (.t (a5_ == 8)
 (.c (Int × (Y1 × (Y2 × Y1))) (waqa a1_ a2_ a3_ a4_ a6_) fun r28_ =>
 .l (r28_.1, (r28_.2.1, (r28_.2.2.1, r28_.2.2.2))))
 (.t (a5_ == 9)
 (.g (decide (0 ≤ a6_) && decide (a6_ ≤ ((length r1_.2.2.1 : Nat) : Int))) <|
 .g (decide ((0 : Int) ≤ (wrap .i64 (a6_ + 1))) && decide ((wrap .i64 (a6_ + 1)) ≤ ((length r1_.2.2.1 : Nat) : Int))) <|
 .g (decide ((toNat a6_) ≤ (toNat (wrap .i64 (a6_ + 1)))) && decide (((toNat a6_) + (length r1_.2.2.1 - (toNat (wrap .i64 (a6_ + 1))))) * 24 ≤ 140737488355328)) <|
 .l (r1_.1, (r1_.2.1, ((List.take (toNat a6_) r1_.2.2.1 ++ List.drop (toNat (wrap .i64 (a6_ + 1))) r1_.2.2.1), r1_.2.2.2))))
 (.t (a5_ == 10)
 (.c (Int × (Bool × Y1)) (waql a1_ a2_ a3_) fun r29_ =>
 .l (r1_.1, (r1_.2.1, (r1_.2.2.1, r29_.2.2))))
 (.t (a5_ == 11)
 (.c Y1 (waqv a1_ a2_) fun r30_ =>
 .c Y1 (woi r30_) fun r31_ =>
 .l (r1_.1, (r1_.2.1, (r1_.2.2.1, r31_))))
 (.l (r1_.1, (r1_.2.1, (r1_.2.2.1, r1_.2.2.2))))))))))))))
noncomputable def waqw (a1_ : Y1) (a2_ : List Y1) (a3_ : Y1) (a4_ : Int) (a5_ : Int) (a6_ : Int) (a7_ : Int) (a8_ : Int) (a9_ : Y1) : Option (Int × (Y1 × (Y2 × Y1))) := (wbdh a1_ a2_ a3_ a4_ a5_ a6_ a7_ a8_ a9_).ev
noncomputable def wbve : RetK := { acts := [.pinB 4 0 1, .pinB 4 1 6, .pinB 4 2 7], res := [.cell 4 68], sh := (yj [.agg (yj [.arr 1, .arr 6, .arr 7, .dat yi])]), obs := [(1, .arr 3 yi), (6, .rows 24 3 yi), (7, .arr 3 yi)], pins := [] }
noncomputable def wbdi : FD := yd (yj [.agg (yj [.dat y1, .dat y2, .dat y1, .dat yi]), .agg (yj [.dat yi, .dat yi, .dat yi, .dat yi, .dat y1])]) [] [] (Int × (Y1 × (Y2 × Y1))) (fun x => waqw x.1.1.1 x.1.1.2.1 x.1.1.2.2.1 x.1.1.2.2.2.1 x.1.2.1.1 x.1.2.1.2.1 x.1.2.1.2.2.1 x.1.2.1.2.2.2.1 x.1.2.1.2.2.2.2.1) (fun r => ([.agg [.arr 1, .arr 6, .arr 7, .dat yi r.1]], [(1, .arr 3 yi r.2.1), (6, .rows 24 3 yi r.2.2.1 none), (7, .arr 3 yi r.2.2.2)]))
noncomputable def wbdj : Env := waa [(156, wapx), (169, wapy), (245, wapz), (173, waen), (246, wbbm), (78, wbcp), (247, wbdd)]
noncomputable def wbdk : List (Nat × LD) := [(1, wabi)]
noncomputable def wbdl : Code := (f211.body).getD .skip
noncomputable def wbdm (a1_ : Y1) (a2_ : List Y1) (a3_ : Y1) (a4_ : Int) (a5_ : Int) (a6_ : Int) (a7_ : Int) (a8_ : Int) (a9_ : Y1) : Tr (Int × (Bool × (Y1 × (Y2 × Y1)))) :=
 .c (Bool) (wapu a5_ a6_ a7_ a8_ a9_) fun r1_ =>
 .t (!r1_)
 (.l ((0 : Int), (false, (([] : Y1), (([] : List Y1), ([] : Y1))))))
 (.c (Bool) (wapw a1_ a2_ a3_ a4_ a5_ a6_ a7_ a8_ a9_) fun r2_ =>
 .t (!r2_)
 (.l ((0 : Int), (false, (([] : Y1), (([] : List Y1), ([] : Y1))))))
 (.c (Int × (Y1 × (Y2 × Y1))) (waqw a1_ a2_ a3_ a4_ a5_ a6_ a7_ a8_ a9_) fun r3_ =>
 .c (Bool) (waiv r3_.2.1 r3_.2.2.1 r3_.2.2.2 (wrap .i64 (a4_ + 1))) fun r4_ =>
 .t (!r4_)
 (.l ((0 : Int), (false, (([] : Y1), (([] : List Y1), ([] : Y1))))))
 (.l ((wrap .i64 (a4_ + 1)), (true, (r3_.2.1, (r3_.2.2.1, r3_.2.2.2)))))))
noncomputable def waqx (a1_ : Y1) (a2_ : List Y1) (a3_ : Y1) (a4_ : Int) (a5_ : Int) (a6_ : Int) (a7_ : Int) (a8_ : Int) (a9_ : Y1) : Option (Int × (Bool × (Y1 × (Y2 × Y1)))) := (wbdm a1_ a2_ a3_ a4_ a5_ a6_ a7_ a8_ a9_).ev
noncomputable def wbvf : RetK := { acts := [.ownB 4 0 5 3 yi, .ownRB 4 1 7 24 3 yi, .ownB 4 2 8 3 yi, .ren 1217 5, .ren 1222 7, .ren 1223 8], res := [.cell 4 68, .tmp 5], sh := (yj [.agg (yj [.arr 5, .arr 7, .arr 8, .dat yi]), .dat .bool]), obs := [(5, .arr 3 yi), (7, .rows 24 3 yi), (8, .arr 3 yi)], pins := [] }
noncomputable def wbdn : FD := yd (yj [.agg (yj [.dat y1, .dat y2, .dat y1, .dat yi]), .agg (yj [.dat yi, .dat yi, .dat yi, .dat yi, .dat y1])]) [] [] (Int × (Bool × (Y1 × (Y2 × Y1)))) (fun x => waqx x.1.1.1 x.1.1.2.1 x.1.1.2.2.1 x.1.1.2.2.2.1 x.1.2.1.1 x.1.2.1.2.1 x.1.2.1.2.2.1 x.1.2.1.2.2.2.1 x.1.2.1.2.2.2.2.1) (fun r => ([.agg [.arr 5, .arr 7, .arr 8, .dat yi r.1], .dat .bool r.2.1], [(5, .arr 3 yi r.2.2.1), (7, .rows 24 3 yi r.2.2.2.1 none), (8, .arr 3 yi r.2.2.2.2)]))
noncomputable def wbdo (a1_ : Y1) (a2_ : List Y1) (a3_ : Y1) (a4_ : Int) (a5_ : Int) (a6_ : Int) (a7_ : Int) (a8_ : Int) (a9_ : Y1) : Tr (Int × (Bool × (Y1 × (Y2 × Y1)))) :=
 .c (Bool) (waiv a1_ a2_ a3_ a4_) fun r1_ =>
 .t (!r1_)
 (.l ((0 : Int), (false, (([] : Y1), (([] : List Y1), ([] : Y1))))))
 (.c (Int × (Bool × (Y1 × (Y2 × Y1)))) (waqx a1_ a2_ a3_ a4_ a5_ a6_ a7_ a8_ a9_) fun r2_ =>
 .l (r2_.1, (r2_.2.1, (r2_.2.2.1, (r2_.2.2.2.1, r2_.2.2.2.2)))))
noncomputable def waqy (a1_ : Y1) (a2_ : List Y1) (a3_ : Y1) (a4_ : Int) (a5_ : Int) (a6_ : Int) (a7_ : Int) (a8_ : Int) (a9_ : Y1) : Option (Int × (Bool × (Y1 × (Y2 × Y1)))) := (wbdo a1_ a2_ a3_ a4_ a5_ a6_ a7_ a8_ a9_).ev
noncomputable def wbvg : RetK := { acts := [.ownB 4 0 5 3 yi, .ownRB 4 1 6 24 3 yi, .ownB 4 2 7 3 yi, .ren 773 5, .ren 775 6, .ren 776 7], res := [.cell 4 68, .tmp 5], sh := (yj [.agg (yj [.arr 5, .arr 6, .arr 7, .dat yi]), .dat .bool]), obs := [(5, .arr 3 yi), (6, .rows 24 3 yi), (7, .arr 3 yi)], pins := [] }
noncomputable def wbdp : FD := yd (yj [.agg (yj [.dat y1, .dat y2, .dat y1, .dat yi]), .agg (yj [.dat yi, .dat yi, .dat yi, .dat yi, .dat y1])]) [] [] (Int × (Bool × (Y1 × (Y2 × Y1)))) (fun x => waqy x.1.1.1 x.1.1.2.1 x.1.1.2.2.1 x.1.1.2.2.2.1 x.1.2.1.1 x.1.2.1.2.1 x.1.2.1.2.2.1 x.1.2.1.2.2.2.1 x.1.2.1.2.2.2.2.1) (fun r => ([.agg [.arr 5, .arr 6, .arr 7, .dat yi r.1], .dat .bool r.2.1], [(5, .arr 3 yi r.2.2.1), (6, .rows 24 3 yi r.2.2.2.1 none), (7, .arr 3 yi r.2.2.2.2)]))
noncomputable def wbdq (a1_ : Int) (a2_ : Int) (a3_ : Int) : Tr (Bool) :=
 .t (decide (a2_ ≤ a1_))
 (.l (decide (a1_ ≤ a3_)))
 (.l false)
noncomputable def woj (a1_ : Int) (a2_ : Int) (a3_ : Int) : Option (Bool) := (wbdq a1_ a2_ a3_).ev
noncomputable def wbvh : RetK := yr [.tmp 6] (yj [.dat .bool])
noncomputable def wut : FD := yd (yj [.dat yi, .dat yi, .dat yi]) [] [] Bool (fun x => woj x.1.1 x.1.2.1 x.1.2.2.1) (fun r => ([.dat .bool r], []))
noncomputable def wne (k : Y1 × (((HL [yi] → Option (Bool))) × Int)) (v : Int) : Tr ((Int) ⊕ ((Unit) ⊕ (Int))) :=
 .t (decide (v < k.2.2))
 (.g (inR v (length k.1)) <|
 .c (Bool) (k.2.1 ((getD k.1 (toNat v) 0), ())) fun r5_ =>
 .t r5_
 (.l (.inr (.inr v)))
 (.l (.inl (wrap .i64 (v + 1)))))
 (.l (.inr (.inl ())))
noncomputable def wajp (k : Y1 × (((HL [yi] → Option (Bool))) × Int)) (v : Int) : Option ((Unit) ⊕ (Int)) := iter (fun v => (wne k v).ev) v
noncomputable def wabj : LD := ⟨(yh [0, 1, 7, 8] (yj [.dat y1, .clo [yi] .bool, .dat yi, .dat yi])), [(0, (yh [] .nil))], (yh [4] (yj [.dat yi])), Y1 × (((HL [yi] → Option (Bool))) × Int), Int, (Unit) ⊕ (Int), fun k v => ((k.1, (k.2.1, (k.2.2, (v, ())))), ()), fun t => (t.1.1, (t.1.2.1, t.1.2.2.1)), fun t => t.1.2.2.2.1, wne, fun _ r => .s (Unit) (Int) r (fun _ => .l (.exit 0 (wbd ((ys [] .nil)) ((), ())))) (fun b => .l (.ret (wbd ((ys [4] (yj [.dat yi]))) ((b, ()), ()))))⟩
noncomputable def wbdr (a1_ : Y1) (a2_ : (HL [yi] → Option (Bool))) : Tr (Int) :=
 .c ((Unit) ⊕ (Int)) (wajp (a1_, (a2_, ((length a1_ : Nat) : Int))) (0 : Int)) fun r7_ =>
 .s (Unit) (Int) r7_
 (fun _ => .l (-1 : Int))
 (fun r9_ => .l r9_)
noncomputable def waqz (a1_ : Y1) (a2_ : (HL [yi] → Option (Bool))) : Option (Int) := (wbdr a1_ a2_).ev
noncomputable def wbvi : RetK := yr [.tmp 4] (yj [.dat yi])
noncomputable def wbds : FD := yd (yj [.dat y1, .clo [yi] .bool]) [] [] Int (fun x => waqz x.1.1 x.1.2.1) (fun r => ([.dat yi r], []))
noncomputable def wbdt : Env := waa []
noncomputable def wbdu : List (Nat × LD) := [(0, wabj)]
noncomputable def wbdv : Code := (f206.body).getD .skip
noncomputable def wbdw (a1_ : Y1) (a2_ : (HL [yi] → Option (Bool))) : Tr (Bool) :=
 .c (Int) (waqz a1_ a2_) fun r1_ =>
 .l (decide (0 ≤ r1_))
noncomputable def wara (a1_ : Y1) (a2_ : (HL [yi] → Option (Bool))) : Option (Bool) := (wbdw a1_ a2_).ev
noncomputable def wbvj : RetK := yr [.tmp 4] (yj [.dat .bool])
noncomputable def warb : FD := yd (yj [.dat y1, .clo [yi] .bool]) [] [] Bool (fun x => wara x.1.1 x.1.2.1) (fun r => ([.dat .bool r], []))
noncomputable def T_zx (a1_ : Int) (a2_ : Int) (a3_ : Int) : Tr (Bool) :=
 .c (Bool) (woj a1_ a2_ a3_) fun r1_ =>
 .l (!r1_)
noncomputable def F_zx (a1_ : Int) (a2_ : Int) (a3_ : Int) : Option (Bool) := (T_zx a1_ a2_ a3_).ev
noncomputable def K_zx : RetK := yr [.tmp 4] (yj [.dat .bool])
noncomputable def D_zx : FD := yd (yj [.dat yi, .ptr (yj [.dat yi]), .ptr (yj [.dat yi])]) [] [] Bool (fun x => F_zx x.1.1 x.1.2.1.1 x.1.2.2.1.1) (fun r => ([.dat .bool r], []))
noncomputable def T_zw (a1_ : Y1) (a2_ : Int) (a3_ : Int) : Tr (Bool) :=
 .c (Bool) (wara a1_ (fun h1_ => Option.bind (F_zx h1_.1 a2_ a3_) fun y2_ => some y2_)) fun r3_ =>
 .l (!r3_)
noncomputable def F_zw (a1_ : Y1) (a2_ : Int) (a3_ : Int) : Option (Bool) := (T_zw a1_ a2_ a3_).ev
noncomputable def K_zw : RetK := yr [.tmp 6] (yj [.dat .bool])
noncomputable def D_zw : FD := yd (yj [.dat y1, .dat yi, .dat yi]) [] [] Bool (fun x => F_zw x.1.1 x.1.2.1 x.1.2.2.1) (fun r => ([.dat .bool r], []))
noncomputable def wnf (k : Y2 × (((HL [y1] → Option (Bool))) × Int)) (v : Int) : Tr ((Int) ⊕ ((Unit) ⊕ (Int))) :=
 .t (decide (v < k.2.2))
 (.g (inR v (length k.1)) <|
 .c (Bool) (k.2.1 ((getD k.1 (toNat v) ([] : Y1)), ())) fun r5_ =>
 .t r5_
 (.l (.inr (.inr v)))
 (.l (.inl (wrap .i64 (v + 1)))))
 (.l (.inr (.inl ())))
noncomputable def wajq (k : Y2 × (((HL [y1] → Option (Bool))) × Int)) (v : Int) : Option ((Unit) ⊕ (Int)) := iter (fun v => (wnf k v).ev) v
noncomputable def wabk : LD := ⟨(yh [0, 1, 7, 8] (yj [.dat y2, .clo [y1] .bool, .dat yi, .dat yi])), [(0, (yh [] .nil))], (yh [4] (yj [.dat yi])), Y2 × (((HL [y1] → Option (Bool))) × Int), Int, (Unit) ⊕ (Int), fun k v => ((k.1, (k.2.1, (k.2.2, (v, ())))), ()), fun t => (t.1.1, (t.1.2.1, t.1.2.2.1)), fun t => t.1.2.2.2.1, wnf, fun _ r => .s (Unit) (Int) r (fun _ => .l (.exit 0 (wbd ((ys [] .nil)) ((), ())))) (fun b => .l (.ret (wbd ((ys [4] (yj [.dat yi]))) ((b, ()), ()))))⟩
noncomputable def wbdx (a1_ : List Y1) (a2_ : (HL [y1] → Option (Bool))) : Tr (Int) :=
 .c ((Unit) ⊕ (Int)) (wajq (a1_, (a2_, ((length a1_ : Nat) : Int))) (0 : Int)) fun r7_ =>
 .s (Unit) (Int) r7_
 (fun _ => .l (-1 : Int))
 (fun r9_ => .l r9_)
noncomputable def warc (a1_ : List Y1) (a2_ : (HL [y1] → Option (Bool))) : Option (Int) := (wbdx a1_ a2_).ev
noncomputable def wbvo : RetK := yr [.tmp 4] (yj [.dat yi])
noncomputable def wbdy : FD := yd (yj [.dat y2, .clo [y1] .bool]) [] [] Int (fun x => warc x.1.1 x.1.2.1) (fun r => ([.dat yi r], []))
noncomputable def wbdz : Env := waa []
noncomputable def wbea : List (Nat × LD) := [(0, wabk)]
noncomputable def wbeb : Code := (f131.body).getD .skip
noncomputable def wbec (a1_ : List Y1) (a2_ : (HL [y1] → Option (Bool))) : Tr (Bool) :=
 .c (Int) (warc a1_ a2_) fun r1_ =>
 .l (decide (0 ≤ r1_))
noncomputable def ward (a1_ : List Y1) (a2_ : (HL [y1] → Option (Bool))) : Option (Bool) := (wbec a1_ a2_).ev
noncomputable def wbvp : RetK := yr [.tmp 4] (yj [.dat .bool])
noncomputable def ware : FD := yd (yj [.dat y2, .clo [y1] .bool]) [] [] Bool (fun x => ward x.1.1 x.1.2.1) (fun r => ([.dat .bool r], []))
noncomputable def T_zu (a1_ : Y1) (a2_ : Y1) (_a3_ : List Y1) : Tr (Bool) :=
 .t (((length a1_ : Nat) : Int) != ((length a2_ : Nat) : Int))
 (.l true)
 (.c (Bool) (F_zw a1_ (0 : Int) (99 : Int)) fun r1_ =>
 .l (!r1_))
noncomputable def F_zu (a1_ : Y1) (a2_ : Y1) (a3_ : List Y1) : Option (Bool) := (T_zu a1_ a2_ a3_).ev
noncomputable def K_zu : RetK := yr [.tmp 3] (yj [.dat .bool])
noncomputable def D_zu : FD := yd (yj [.dat y1, .ptr (yj [.dat y1, .dat y2])]) [] [] Bool (fun x => F_zu x.1.1 x.1.2.1.1 x.1.2.1.2.1) (fun r => ([.dat .bool r], []))
noncomputable def T_zt (a1_ : Y1) (a2_ : List Y1) : Tr (Bool) :=
 .c (Bool) (woj ((length a1_ : Nat) : Int) (1 : Int) (7 : Int)) fun r1_ =>
 .t r1_
 (.c (Bool) (F_zw a1_ (0 : Int) (99 : Int)) fun r2_ =>
 .t r2_
 (.t (decide (((length a2_ : Nat) : Int) ≤ (7 : Int)))
 (.c (Bool) (ward a2_ (fun h3_ => Option.bind (F_zu h3_.1 a1_ a2_) fun y4_ => some y4_)) fun r5_ =>
 .l (!r5_))
 (.l false))
 (.l false))
 (.l false)
noncomputable def F_zt (a1_ : Y1) (a2_ : List Y1) : Option (Bool) := (T_zt a1_ a2_).ev
noncomputable def K_zt : RetK := yr [.tmp 2] (yj [.dat .bool])
noncomputable def D_zt : FD := yd (yj [.agg (yj [.dat y1, .dat y2])]) [] [] Bool (fun x => F_zt x.1.1.1 x.1.1.2.1) (fun r => ([.dat .bool r], []))
noncomputable def wjq (k : Y1 × (Int × (Y1 × Int))) (v : Int) : Tr ((Int) ⊕ ((Unit) ⊕ (Unit))) :=
 .t (decide (v < k.2.2.2))
 (.g (inR v (length k.2.2.1)) <|
 .c (Bool) (woj (getD k.2.2.1 (toNat v) 0) (0 : Int) (wrap .i64 (k.2.1 - 1))) fun r6_ =>
 .t (!r6_)
 (.l (.inr (.inr ())))
 (.t (decide (0 < v))
 (.g (inR (wrap .i64 (v - 1)) (length k.1)) <|
 .t (decide ((getD k.2.2.1 (toNat v) 0) ≤ (getD k.1 (toNat (wrap .i64 (v - 1))) (0 : Int))))
 (.l (.inr (.inr ())))
 (.l (.inl (wrap .i64 (v + 1)))))
 (.l (.inl (wrap .i64 (v + 1))))))
 (.l (.inr (.inl ())))
noncomputable def wajr (k : Y1 × (Int × (Y1 × Int))) (v : Int) : Option ((Unit) ⊕ (Unit)) := iter (fun v => (wjq k v).ev) v
noncomputable def wabl : LD := ⟨(yh [0, 1, 7, 8, 9] (yj [.dat y1, .dat yi, .dat y1, .dat yi, .dat yi])), [(0, (yh [] .nil))], (yh [4] (yj [.dat .bool])), Y1 × (Int × (Y1 × Int)), Int, (Unit) ⊕ (Unit), fun k v => ((k.1, (k.2.1, (k.2.2.1, (k.2.2.2, (v, ()))))), ()), fun t => (t.1.1, (t.1.2.1, (t.1.2.2.1, t.1.2.2.2.1))), fun t => t.1.2.2.2.2.1, wjq, fun _ r => .s (Unit) (Unit) r (fun _ => .l (.exit 0 (wbd ((ys [] .nil)) ((), ())))) (fun _ => .l (.ret (wbd ((ys [4] (yj [.dat .bool]))) ((false, ()), ()))))⟩
noncomputable def wbed (a1_ : Y1) (a2_ : Int) : Tr (Bool) :=
 .c ((Unit) ⊕ (Unit)) (wajr (a1_, (a2_, (a1_, ((length a1_ : Nat) : Int)))) (0 : Int)) fun r8_ =>
 .s (Unit) (Unit) r8_
 (fun _ => .l true)
 (fun _ => .l false)
noncomputable def wajs (a1_ : Y1) (a2_ : Int) : Option (Bool) := (wbed a1_ a2_).ev
noncomputable def wbvt : RetK := yr [.tmp 4] (yj [.dat .bool])
noncomputable def warf : FD := yd (yj [.dat y1, .dat yi]) [] [] Bool (fun x => wajs x.1.1 x.1.2.1) (fun r => ([.dat .bool r], []))
noncomputable def wbee : Env := waa [(104, wut)]
noncomputable def wbef : List (Nat × LD) := [(0, wabl)]
noncomputable def wbeg : Code := (f117.body).getD .skip
noncomputable def T_zs (a1_ : Y1) (a2_ : List Y1) (a3_ : Y1) (a4_ : Int) : Tr (Bool) :=
 .c (Bool) (F_zt a1_ a2_) fun r1_ =>
 .t r1_
 (.c (Bool) (wajs a3_ ((length a1_ : Nat) : Int)) fun r2_ =>
 .t r2_
 (.c (Bool) (woj a4_ (0 : Int) (1000 : Int)) fun r3_ =>
 .l r3_)
 (.l false))
 (.l false)
noncomputable def wks (a1_ : Y1) (a2_ : List Y1) (a3_ : Y1) (a4_ : Int) : Option (Bool) := (T_zs a1_ a2_ a3_ a4_).ev
noncomputable def K_zs : RetK := yr [.tmp 2] (yj [.dat .bool])
noncomputable def D_zs : FD := yd (yj [.agg (yj [.dat y1, .dat y2, .dat y1, .dat yi])]) [] [] Bool (fun x => wks x.1.1.1 x.1.1.2.1 x.1.1.2.2.1 x.1.1.2.2.2.1) (fun r => ([.dat .bool r], []))
noncomputable def wbeh (a1_ : Int) : Tr (Int × (Bool × (Bool))) :=
 .t (a1_ == 1)
 (.t (a1_ == 1)
 (.l ((1 : Int), (false, true)))
 (.t (a1_ == 3)
 (.t (a1_ == 3)
 (.l ((2 : Int), (false, true)))
 (.t (a1_ == 5)
 (.l ((3 : Int), (false, true)))
 (.t (a1_ == 6)
 (.l ((1 : Int), (true, true)))
 (.t (a1_ == 7)
 (.l ((0 : Int), (true, true)))
 (.t (a1_ == 10)
 (.t (a1_ == 10)
 (.l ((0 : Int), (false, true)))
 (.l ((0 : Int), (false, false))))
 (.t (a1_ == 11)
 (.l ((0 : Int), (false, true)))
 (.l ((0 : Int), (false, false)))))))))
 (.t (a1_ == 4)
 (.l ((2 : Int), (false, true)))
 (.t (a1_ == 5)
 (.l ((3 : Int), (false, true)))
 (.t (a1_ == 6)
 (.l ((1 : Int), (true, true)))
 (.t (a1_ == 7)
 (.l ((0 : Int), (true, true)))
 (.t (a1_ == 10)
 (.t (a1_ == 10)
 (.l ((0 : Int), (false, true)))
 (.l ((0 : Int), (false, false))))
 (.t (a1_ == 11)
 (.l ((0 : Int), (false, true)))
 (.l ((0 : Int), (false, false)))))))))))
 (.t (a1_ == 2)
 (.t (a1_ == 2)
 (.l ((1 : Int), (false, true)))
 (.t (a1_ == 3)
 (.t (a1_ == 3)
 (.l ((2 : Int), (false, true)))
 (.t (a1_ == 5)
 (.l ((3 : Int), (false, true)))
 (.t (a1_ == 6)
 (.l ((1 : Int), (true, true)))
 (.t (a1_ == 7)
 (.l ((0 : Int), (true, true)))
 (.t (a1_ == 10)
 (.t (a1_ == 10)
 (.l ((0 : Int), (false, true)))
 (.l ((0 : Int), (false, false))))
 (.t (a1_ == 11)
 (.l ((0 : Int), (false, true)))
 (.l ((0 : Int), (false, false)))))))))
 (.t (a1_ == 4)
 (.l ((2 : Int), (false, true)))
 (.t (a1_ == 5)
 (.l ((3 : Int), (false, true)))
 (.t (a1_ == 6)
 (.l ((1 : Int), (true, true)))
 (.t (a1_ == 7)
 (.l ((0 : Int), (true, true)))
 (.t (a1_ == 10)
 (.t (a1_ == 10)
 (.l ((0 : Int), (false, true)))
 (.l ((0 : Int), (false, false))))
 (.t (a1_ == 11)
 (.l ((0 : Int), (false, true)))
 (.l ((0 : Int), (false, false)))))))))))
 (.t (a1_ == 8)
 (.t (a1_ == 8)
 (.l ((1 : Int), (false, true)))
 (.t (a1_ == 3)
 (.t (a1_ == 3)
 (.l ((2 : Int), (false, true)))
 (.t (a1_ == 5)
 (.l ((3 : Int), (false, true)))
 (.t (a1_ == 6)
 (.l ((1 : Int), (true, true)))
 (.t (a1_ == 7)
 (.l ((0 : Int), (true, true)))
 (.t (a1_ == 10)
 (.t (a1_ == 10)
 (.l ((0 : Int), (false, true)))
 (.l ((0 : Int), (false, false))))
 (.t (a1_ == 11)
 (.l ((0 : Int), (false, true)))
 (.l ((0 : Int), (false, false)))))))))
 (.t (a1_ == 4)
 (.l ((2 : Int), (false, true)))
 (.t (a1_ == 5)
 (.l ((3 : Int), (false, true)))
 (.t (a1_ == 6)
 (.l ((1 : Int), (true, true)))
 (.t (a1_ == 7)
 (.l ((0 : Int), (true, true)))
 (.t (a1_ == 10)
 (.t (a1_ == 10)
 (.l ((0 : Int), (false, true)))
 (.l ((0 : Int), (false, false))))
 (.t (a1_ == 11)
 (.l ((0 : Int), (false, true)))
 (.l ((0 : Int), (false, false)))))))))))
 (.t (a1_ == 9)
 (.l ((1 : Int), (false, true)))
 (.t (a1_ == 3)
 (.t (a1_ == 3)
 (.l ((2 : Int), (false, true)))
 (.t (a1_ == 5)
 (.l ((3 : Int), (false, true)))
 (.t (a1_ == 6)
 (.l ((1 : Int), (true, true)))
 (.t (a1_ == 7)
 (.l ((0 : Int), (true, true)))
 (.t (a1_ == 10)
 (.t (a1_ == 10)
 (.l ((0 : Int), (false, true)))
 (.l ((0 : Int), (false, false))))
 (.t (a1_ == 11)
 (.l ((0 : Int), (false, true)))
 (.l ((0 : Int), (false, false)))))))))
 (.t (a1_ == 4)
 (.l ((2 : Int), (false, true)))
 (.t (a1_ == 5)
 (.l ((3 : Int), (false, true)))
 (.t (a1_ == 6)
 (.l ((1 : Int), (true, true)))
 (.t (a1_ == 7)
 (.l ((0 : Int), (true, true)))
 (.t (a1_ == 10)
 (.t (a1_ == 10)
 (.l ((0 : Int), (false, true)))
 (.l ((0 : Int), (false, false))))
 (.t (a1_ == 11)
 (.l ((0 : Int), (false, true)))
 (.l ((0 : Int), (false, false)))))))))))))
noncomputable def wgw (a1_ : Int) : Option (Int × (Bool × (Bool))) := (wbeh a1_).ev
noncomputable def wbvw : RetK := yr [.tmp 2, .tmp 3, .tmp 4] (yj [.dat yi, .dat .bool, .dat .bool])
noncomputable def wbei : FD := yd (yj [.dat yi]) [] [] (Int × (Bool × (Bool))) (fun x => wgw x.1.1) (fun r => ([.dat yi r.1, .dat .bool r.2.1, .dat .bool r.2.2], []))
noncomputable def T_zh (a1_ : Int) (a2_ : Int) (a3_ : Int) (a4_ : Int) (a5_ : Y1) : Tr (Bool) :=
 .c (Int × (Bool × (Bool))) (wgw a1_) fun r1_ =>
 .t r1_.2.2
 (.t (decide (0 < r1_.1))
 (.t (decide (1 < r1_.1))
 (.t (decide (2 < r1_.1))
 (.t r1_.2.1
 (.l true)
 (.l (((length a5_ : Nat) : Int) == (0 : Int))))
 (.t (a4_ == 0)
 (.t r1_.2.1
 (.l true)
 (.l (((length a5_ : Nat) : Int) == (0 : Int))))
 (.l false)))
 (.t (a3_ == 0)
 (.t (decide (2 < r1_.1))
 (.t r1_.2.1
 (.l true)
 (.l (((length a5_ : Nat) : Int) == (0 : Int))))
 (.t (a4_ == 0)
 (.t r1_.2.1
 (.l true)
 (.l (((length a5_ : Nat) : Int) == (0 : Int))))
 (.l false)))
 (.l false)))
 (.t (a2_ == 0)
 (.t (decide (1 < r1_.1))
 (.t (decide (2 < r1_.1))
 (.t r1_.2.1
 (.l true)
 (.l (((length a5_ : Nat) : Int) == (0 : Int))))
 (.t (a4_ == 0)
 (.t r1_.2.1
 (.l true)
 (.l (((length a5_ : Nat) : Int) == (0 : Int))))
 (.l false)))
 (.t (a3_ == 0)
 (.t (decide (2 < r1_.1))
 (.t r1_.2.1
 (.l true)
 (.l (((length a5_ : Nat) : Int) == (0 : Int))))
 (.t (a4_ == 0)
 (.t r1_.2.1
 (.l true)
 (.l (((length a5_ : Nat) : Int) == (0 : Int))))
 (.l false)))
 (.l false)))
 (.l false)))
 (.l false)
noncomputable def F_zh (a1_ : Int) (a2_ : Int) (a3_ : Int) (a4_ : Int) (a5_ : Y1) : Option (Bool) := (T_zh a1_ a2_ a3_ a4_ a5_).ev
noncomputable def K_zh : RetK := yr [.tmp 2] (yj [.dat .bool])
noncomputable def D_zh : FD := yd (yj [.agg (yj [.dat yi, .dat yi, .dat yi, .dat yi, .dat y1])]) [] [] Bool (fun x => F_zh x.1.1.1 x.1.1.2.1 x.1.1.2.2.1 x.1.1.2.2.2.1 x.1.1.2.2.2.2.1) (fun r => ([.dat .bool r], []))
noncomputable def wqv (a1_ : Y1) : Option (List Int) := wpc a1_
noncomputable def wajt : FD := fdClone
noncomputable def wng (k : Y2 × Int) (v : Int × Y2) : Tr ((Int × Y2) ⊕ Y2) :=
 .t (decide (v.1 < k.2))
 (.g (inR v.1 (length k.1)) <|
 .c (List Int) (wqv (getD k.1 (toNat v.1) ([] : Y1))) fun r5_ =>
 .g (decide ((length v.2 + 1) * 24 ≤ 140737488355328)) <|
 .l (.inl ((wrap .i64 (v.1 + 1)), (set (v.2 ++ [[]]) (length v.2) r5_))))
 (.l (.inr v.2))
noncomputable def waju (k : Y2 × Int) (v : Int × Y2) : Option Y2 := iter (fun v => (wng k v).ev) v
noncomputable def wabm : LD := ⟨{ acts := [], S := { slots := [3, 7, 8, 9], sh := (yj [.arr 6, .dat y2, .dat yi, .dat yi]), obs := [(6, .rows 24 3 yi)] } }, [(0, { acts := [], S := { slots := [3], sh := (yj [.arr 6]), obs := [(6, .rows 24 3 yi)] } })], (yh [] .nil), Y2 × (Int), Int × Y2, List Y1, fun k v => (((), (k.1, (k.2, (v.1, ())))), (v.2, ())), fun t => (t.1.2.1, t.1.2.2.1), fun t => (t.1.2.2.2.1, t.2.1), wng, fun _ r => .l (.exit 0 (wbd ({ slots := [3], sh := (yj [.arr 6]), obs := [(6, .rows 24 3 yi)] }) (((), ()), (r, ()))))⟩
noncomputable def wbej (a1_ : List Y1) : Tr Y2 :=
 .c Y2 (waju (a1_, ((length a1_ : Nat) : Int)) ((0 : Int), ([] : List Y1))) fun r7_ =>
 .l r7_
noncomputable def warg (a1_ : List Y1) : Option Y2 := (wbej a1_).ev
noncomputable def wbvz : RetK := { acts := [.ren 6 0], res := [.tmp 2], sh := (yj [.arr 0]), obs := [(0, .rows 24 3 yi)], pins := [] }
noncomputable def wbek : FD := yd (yj [.dat y2]) [] [] (List Y1) (fun x => warg x.1.1) (fun r => ([.arr 0], [(0, .rows 24 3 yi r none)]))
noncomputable def wbel : Nat → Nat → List Nat := fun r i => match look [(1, [(0, [1000000])])] r with
 | some l => (look l i).getD []
 | none => []
noncomputable def wbem : Env := waa [(146, wajt)]
noncomputable def wben : List (Nat × LD) := [(0, wabm)]
noncomputable def wbeo : Code := (f214.body).getD .skip
noncomputable def T_zd (a1_ : Y1) (a2_ : List Y1) (a3_ : Y1) (a4_ : Int) : Tr (Int × (Y1 × (Y2 × Y1))) :=
 .c (List Int) (wqv a1_) fun r1_ =>
 .c Y2 (warg a2_) fun r2_ =>
 .c (List Int) (wqv a3_) fun r3_ =>
 .l (a4_, (r1_, (r2_, r3_)))
noncomputable def F_zd (a1_ : Y1) (a2_ : List Y1) (a3_ : Y1) (a4_ : Int) : Option (Int × (Y1 × (Y2 × Y1))) := (T_zd a1_ a2_ a3_ a4_).ev
noncomputable def K_zd : RetK := { acts := [.ren 384 3, .ren 640 4, .ren 896 5], res := [.cell 2 68], sh := (yj [.agg (yj [.arr 3, .arr 4, .arr 5, .dat yi])]), obs := [(3, .arr 3 yi), (4, .rows 24 3 yi), (5, .arr 3 yi)], pins := [] }
noncomputable def D_zd : FD := yd (yj [.agg (yj [.dat y1, .dat y2, .dat y1, .dat yi])]) [] [] (Int × (Y1 × (Y2 × Y1))) (fun x => F_zd x.1.1.1 x.1.1.2.1 x.1.1.2.2.1 x.1.1.2.2.2.1) (fun r => ([.agg [.arr 3, .arr 4, .arr 5, .dat yi r.1]], [(3, .arr 3 yi r.2.1), (4, .rows 24 3 yi r.2.2.1 none), (5, .arr 3 yi r.2.2.2)]))
noncomputable def wuu (k : Y1 × Int) (v : Int × Int) : Tr ((Int × Int) ⊕ (Int)) :=
 .t (decide (v.2 < k.2))
 (.g (inR v.2 (length k.1)) <|
 .g (decide ((0 : Int) ≤ (getD k.1 (toNat v.2) 0))) <|
 .l (.inl ((wrap .u64 (BitVec.toNat ((BitVec.ofInt (IntKind.bits .u64) v.1) ||| (BitVec.ofInt (IntKind.bits .u64) (wrap .u64 ((1 : Int) * 2 ^ (min (toNat (getD k.1 (toNat v.2) 0)) (IntKind.bits .u64)))))))), (wrap .i64 (v.2 + 1)))))
 (.l (.inr v.1))
noncomputable def wawb (k : Y1 × Int) (v : Int × Int) : Option (Int) := iter (fun v => (wuu k v).ev) v
noncomputable def wajv : LD := ⟨(yh [3, 6, 7, 8] (yj [.dat (.int .u64), .dat y1, .dat yi, .dat yi])), [(0, (yh [3] (yj [.dat (.int .u64)])))], (yh [] .nil), Y1 × (Int), Int × (Int), Int, fun k v => ((v.1, (k.1, (k.2, (v.2, ())))), ()), fun t => (t.1.2.1, t.1.2.2.1), fun t => (t.1.1, t.1.2.2.2.1), wuu, fun _ r => .l (.exit 0 (wbd ((ys [3] (yj [.dat (.int .u64)]))) ((r, ()), ())))⟩
noncomputable def T_zy (a1_ : Y1) : Tr (Int) :=
 .c (Int) (wawb (a1_, ((length a1_ : Nat) : Int)) ((0 : Int), (0 : Int))) fun r6_ =>
 .l r6_
noncomputable def F_zy (a1_ : Y1) : Option (Int) := (T_zy a1_).ev
noncomputable def K_zy : RetK := yr [.tmp 2] (yj [.dat (.int .u64)])
noncomputable def D_zy : FD := yd (yj [.dat y1]) [] [] Int (fun x => F_zy x.1.1) (fun r => ([.dat (.int .u64) r], []))
noncomputable def E_zy : Env := waa []
noncomputable def O_zy : List (Nat × LD) := [(0, wajv)]
noncomputable def C_zy : Code := (f141.body).getD .skip
noncomputable def T_zg (a1_ : Int) (a2_ : Y1) (_a3_ : List Y1) (_a4_ : Y1) (_a5_ : Int) : Tr (Bool) :=
 .c (Bool) (woj a1_ (0 : Int) (wrap .i64 (((length a2_ : Nat) : Int) - 1))) fun r1_ =>
 .l r1_
noncomputable def F_zg (a1_ : Int) (a2_ : Y1) (a3_ : List Y1) (a4_ : Y1) (a5_ : Int) : Option (Bool) := (T_zg a1_ a2_ a3_ a4_ a5_).ev
noncomputable def K_zg : RetK := yr [.tmp 3] (yj [.dat .bool])
noncomputable def D_zg : FD := yd (yj [.dat yi, .ptr (yj [.dat y1, .dat y2, .dat y1, .dat yi])]) [] [] Bool (fun x => F_zg x.1.1 x.1.2.1.1 x.1.2.1.2.1 x.1.2.1.2.2.1 x.1.2.1.2.2.2.1) (fun r => ([.dat .bool r], []))
noncomputable def T_zz (a1_ : Int) (a2_ : Int) : Tr (Bool) :=
 .g (decide (0 ≤ a2_)) <|
 .l ((wrap .u64 (BitVec.toNat ((BitVec.ofInt (IntKind.bits .u64) (Int.fdiv a1_ (2 ^ (min (toNat a2_) (IntKind.bits .u64))))) &&& (BitVec.ofInt (IntKind.bits .u64) (1 : Int))))) == (1 : Int))
noncomputable def F_zz (a1_ : Int) (a2_ : Int) : Option (Bool) := (T_zz a1_ a2_).ev
noncomputable def K_zz : RetK := yr [.tmp 4] (yj [.dat .bool])
noncomputable def D_zz : FD := yd (yj [.dat (.int .u64), .dat yi]) [] [] Bool (fun x => F_zz x.1.1 x.1.2.1) (fun r => ([.dat .bool r], []))
noncomputable def wqw (k : Int) (v : Int × Y1) : Tr ((Int × Y1) ⊕ Y1) :=
 .g (decide (0 ≤ v.1)) <|
 .t (decide ((0 : Int) < (Int.fdiv k (2 ^ (min (toNat v.1) (IntKind.bits .u64))))))
 (.c (Bool) (F_zz k v.1) fun r4_ =>
 .t r4_
 (.g (decide ((length v.2 + length ([v.1] : Y1)) * 8 ≤ 140737488355328)) <|
 .l (.inl ((wrap .i64 (v.1 + 1)), (v.2 ++ ([v.1] : Y1)))))
 (.l (.inl ((wrap .i64 (v.1 + 1)), v.2))))
 (.l (.inr v.2))
noncomputable def wya (k : Int) (v : Int × Y1) : Option Y1 := iter (fun v => (wqw k v).ev) v
noncomputable def wabn : LD := ⟨{ acts := [], S := { slots := [0, 3, 4], sh := (yj [.dat (.int .u64), .arr 5, .dat yi]), obs := [(5, .arr 3 yi)] } }, [(0, { acts := [], S := { slots := [3], sh := (yj [.arr 5]), obs := [(5, .arr 3 yi)] } })], (yh [] .nil), Int, Int × Y1, Y1, fun k v => ((k, ((), (v.1, ()))), (v.2, ())), fun t => t.1.1, fun t => (t.1.2.2.1, t.2.1), wqw, fun _ r => .l (.exit 0 (wbd ({ slots := [3], sh := (yj [.arr 5]), obs := [(5, .arr 3 yi)] }) (((), ()), (r, ()))))⟩
noncomputable def warh (a1_ : Int) : Tr Y1 :=
 .c Y1 (wya a1_ ((0 : Int), ([] : Y1))) fun r6_ =>
 .l r6_
noncomputable def wkt (a1_ : Int) : Option Y1 := (warh a1_).ev
noncomputable def wbwi : RetK := { acts := [.ren 5 0], res := [.tmp 2], sh := (yj [.arr 0]), obs := [(0, .arr 3 yi)], pins := [] }
noncomputable def waeq : FD := yd (yj [.dat (.int .u64)]) [] [] Y1 (fun x => wkt x.1.1) (fun r => ([.arr 0], [(0, .arr 3 yi r)]))
noncomputable def wbep : Env := waa [(143, D_zz)]
noncomputable def wbeq : List (Nat × LD) := [(0, wabn)]
noncomputable def wber : Code := (f144.body).getD .skip
noncomputable def wbes (a1_ : Y1) (a2_ : Int) (a3_ : Int) : Tr Y1 :=
 .c (Int) (F_zy a1_) fun r1_ =>
 .g (decide (0 ≤ a2_)) <|
 .g (decide (0 ≤ a3_)) <|
 .c Y1 (wkt (wrap .u64 (BitVec.toNat ((BitVec.ofInt (IntKind.bits .u64) (wrap .u64 (BitVec.toNat ((BitVec.ofInt (IntKind.bits .u64) r1_) &&& ~~~(BitVec.ofInt (IntKind.bits .u64) (wrap .u64 ((1 : Int) * 2 ^ (min (toNat a2_) (IntKind.bits .u64))))))))) ||| (BitVec.ofInt (IntKind.bits .u64) (wrap .u64 ((1 : Int) * 2 ^ (min (toNat a3_) (IntKind.bits .u64))))))))) fun r2_ =>
 .l r2_
noncomputable def wajw (a1_ : Y1) (a2_ : Int) (a3_ : Int) : Option Y1 := (wbes a1_ a2_ a3_).ev
noncomputable def wbwj : RetK := { acts := [.ren 960 0], res := [.tmp 6], sh := (yj [.arr 0]), obs := [(0, .arr 3 yi)], pins := [] }
noncomputable def wari : FD := yd (yj [.dat y1, .dat yi, .dat yi]) [] [] Y1 (fun x => wajw x.1.1 x.1.2.1 x.1.2.2.1) (fun r => ([.arr 0], [(0, .arr 3 yi r)]))
noncomputable def warj (a2_ : Int) (a3_ : Int) (a1_ : Y1) : Option (List Int) := delF a2_ a3_ a1_
noncomputable def wblz : FD := fdDelI
noncomputable def wbma (a2_ : Int) (a3_ : Int) (a1_ : List Y1) : Option (List (List Int)) := delF a2_ a3_ a1_
noncomputable def wbmb : FD := fdDelR
noncomputable def T_zk (a1_ : Y1) (_a2_ : List Y1) (a3_ : Y1) : Tr (Bool) :=
 .t (decide ((0 : Int) < ((length a3_ : Nat) : Int)))
 (.c (Bool) (wajs a3_ ((length a1_ : Nat) : Int)) fun r1_ =>
 .l r1_)
 (.l false)
noncomputable def F_zk (a1_ : Y1) (a2_ : List Y1) (a3_ : Y1) : Option (Bool) := (T_zk a1_ a2_ a3_).ev
noncomputable def K_zk : RetK := yr [.tmp 4] (yj [.dat .bool])
noncomputable def D_zk : FD := yd (yj [.agg (yj [.dat y1, .dat y2]), .dat y1]) [] [] Bool (fun x => F_zk x.1.1.1 x.1.1.2.1 x.1.2.1) (fun r => ([.dat .bool r], []))
noncomputable def wbet (a1_ : Y1) (a2_ : List Y1) (a3_ : Y1) : Tr (Bool) :=
 .c (Bool) (F_zt a1_ a2_) fun r1_ =>
 .t r1_
 (.c (Bool) (F_zk a1_ a2_ a3_) fun r2_ =>
 .l r2_)
 (.l false)
noncomputable def wark (a1_ : Y1) (a2_ : List Y1) (a3_ : Y1) : Option (Bool) := (wbet a1_ a2_ a3_).ev
noncomputable def wbwn : RetK := yr [.tmp 4] (yj [.dat .bool])
noncomputable def wbeu : FD := yd (yj [.agg (yj [.dat y1, .dat y2]), .dat y1]) [] [] Bool (fun x => wark x.1.1.1 x.1.1.2.1 x.1.2.1) (fun r => ([.dat .bool r], []))
noncomputable def wuv (k : Y1 × (Int × (Y1 × Y2))) (v : Int × Int) : Tr ((Int × Int) ⊕ (Int)) :=
 .t (decide (v.2 < k.2.1))
 (.g (inR v.2 (length k.1)) <|
 .g (inR (getD k.1 (toNat v.2) 0) (length k.2.2.1)) <|
 .l (.inl ((wrap .i64 (v.1 + (getD k.2.2.1 (toNat (getD k.1 (toNat v.2) 0)) (0 : Int)))), (wrap .i64 (v.2 + 1)))))
 (.l (.inr v.1))
noncomputable def wawc (k : Y1 × (Int × (Y1 × Y2))) (v : Int × Int) : Option (Int) := iter (fun v => (wuv k v).ev) v
noncomputable def wajx : LD := ⟨{ acts := [], S := { slots := [2, 5, 8, 9, 10], sh := (yj [.box 2 0, .dat yi, .dat y1, .dat yi, .dat yi]), obs := [(2, .cells (yj [.dat y1, .dat y2]))] } }, [(0, (yh [5] (yj [.dat yi])))], (yh [] .nil), Y1 × (Int × (Y1 × Y2)), Int × (Int), Int, fun k v => (((), (v.1, (k.1, (k.2.1, (v.2, ()))))), ((k.2.2.1, (k.2.2.2, ())), ())), fun t => (t.1.2.2.1, (t.1.2.2.2.1, (t.2.1.1, t.2.1.2.1))), fun t => (t.1.2.1, t.1.2.2.2.2.1), wuv, fun _ r => .l (.exit 0 (wbd ((ys [5] (yj [.dat yi]))) ((r, ()), ())))⟩
noncomputable def T_zn (a1_ : Y1) (a2_ : List Y1) (a3_ : Y1) : Tr (Int) :=
 .c (Int) (wawc (a3_, (((length a3_ : Nat) : Int), (a1_, a2_))) ((0 : Int), (0 : Int))) fun r8_ =>
 .l r8_
noncomputable def F_zn (a1_ : Y1) (a2_ : List Y1) (a3_ : Y1) : Option (Int) := (T_zn a1_ a2_ a3_).ev
noncomputable def K_zn : RetK := yr [.tmp 4] (yj [.dat yi])
noncomputable def D_zn : FD := yd (yj [.agg (yj [.dat y1, .dat y2]), .dat y1]) [] [] Int (fun x => F_zn x.1.1.1 x.1.1.2.1 x.1.2.1) (fun r => ([.dat yi r], []))
noncomputable def E_zn : Env := waa []
noncomputable def O_zn : List (Nat × LD) := [(0, wajx)]
noncomputable def C_zn : Code := (f187.body).getD .skip
noncomputable def wuw (k : Int × (Y1 × (Int × (Y1 × Y2)))) (v : Int × Int) : Tr ((Int × Int) ⊕ (Int)) :=
 .t (decide (v.2 < k.2.2.1))
 (.g (inR v.2 (length k.2.1)) <|
 .g (inR k.1 (length k.2.2.2.2)) <|
 .g (inR (getD k.2.1 (toNat v.2) 0) (length (getD k.2.2.2.2 (toNat k.1) ([] : Y1)))) <|
 .g (inR k.1 (length k.2.2.2.2)) <|
 .g (inR v.1 (length (getD k.2.2.2.2 (toNat k.1) ([] : Y1)))) <|
 .t (decide ((getD (getD k.2.2.2.2 (toNat k.1) ([] : Y1)) (toNat (getD k.2.1 (toNat v.2) 0)) (0 : Int)) < (getD (getD k.2.2.2.2 (toNat k.1) ([] : Y1)) (toNat v.1) (0 : Int))))
 (.l (.inl ((getD k.2.1 (toNat v.2) 0), (wrap .i64 (v.2 + 1)))))
 (.l (.inl (v.1, (wrap .i64 (v.2 + 1))))))
 (.l (.inr v.1))
noncomputable def wawd (k : Int × (Y1 × (Int × (Y1 × Y2)))) (v : Int × Int) : Option (Int) := iter (fun v => (wuw k v).ev) v
noncomputable def wajy : LD := ⟨{ acts := [], S := { slots := [1, 3, 7, 13, 14, 15], sh := (yj [.dat yi, .box 3 0, .dat yi, .dat y1, .dat yi, .dat yi]), obs := [(3, .cells (yj [.dat y1, .dat y2]))] } }, [(0, (yh [7] (yj [.dat yi])))], (yh [] .nil), Int × (Y1 × (Int × (Y1 × Y2))), Int × (Int), Int, fun k v => ((k.1, ((), (v.1, (k.2.1, (k.2.2.1, (v.2, ())))))), ((k.2.2.2.1, (k.2.2.2.2, ())), ())), fun t => (t.1.1, (t.1.2.2.2.1, (t.1.2.2.2.2.1, (t.2.1.1, t.2.1.2.1)))), fun t => (t.1.2.2.1, t.1.2.2.2.2.2.1), wuw, fun _ r => .l (.exit 0 (wbd ((ys [7] (yj [.dat yi]))) ((r, ()), ())))⟩
noncomputable def T_zp (a1_ : Y1) (a2_ : List Y1) (a3_ : Int) (a4_ : Y1) : Tr (Int) :=
 .g (inR 0 (length a4_)) <|
 .c (Int) (wawd (a3_, (a4_, (((length a4_ : Nat) : Int), (a1_, a2_)))) ((getD a4_ (toNat 0) 0), (0 : Int))) fun r9_ =>
 .l r9_
noncomputable def F_zp (a1_ : Y1) (a2_ : List Y1) (a3_ : Int) (a4_ : Y1) : Option (Int) := (T_zp a1_ a2_ a3_ a4_).ev
noncomputable def K_zp : RetK := yr [.tmp 6] (yj [.dat yi])
noncomputable def D_zp : FD := yd (yj [.agg (yj [.dat y1, .dat y2]), .dat yi, .dat y1]) [] [] Int (fun x => F_zp x.1.1.1 x.1.1.2.1 x.1.2.1 x.1.2.2.1) (fun r => ([.dat yi r], []))
noncomputable def E_zp : Env := waa []
noncomputable def O_zp : List (Nat × LD) := [(0, wajy)]
noncomputable def C_zp : Code := (f274.body).getD .skip
noncomputable def wux (k : Y1 × (Int × (Y1 × Y2))) (v : Int × Y1) : Tr ((Int × Y1) ⊕ Y1) :=
 .t (decide (v.1 < k.2.1))
 (.c (Int) (F_zp k.2.2.1 k.2.2.2 v.1 k.1) fun r7_ =>
 .g (decide ((length v.2 + length ([r7_] : Y1)) * 8 ≤ 140737488355328)) <|
 .l (.inl ((wrap .i64 (v.1 + 1)), (v.2 ++ ([r7_] : Y1)))))
 (.l (.inr v.2))
noncomputable def wawe (k : Y1 × (Int × (Y1 × Y2))) (v : Int × Y1) : Option Y1 := iter (fun v => (wux k v).ev) v
noncomputable def wajz : LD := ⟨{ acts := [], S := { slots := [1, 2, 5, 10, 11], sh := (yj [.dat y1, .box 2 0, .arr 7, .dat yi, .dat yi]), obs := [(2, .cells (yj [.dat y1, .dat y2])), (7, .arr 3 yi)] } }, [(0, { acts := [], S := { slots := [5], sh := (yj [.arr 7]), obs := [(7, .arr 3 yi)] } })], (yh [] .nil), Y1 × (Int × (Y1 × Y2)), Int × Y1, Y1, fun k v => ((k.1, ((), ((), (k.2.1, (v.1, ()))))), ((k.2.2.1, (k.2.2.2, ())), (v.2, ()))), fun t => (t.1.1, (t.1.2.2.2.1, (t.2.1.1, t.2.1.2.1))), fun t => (t.1.2.2.2.2.1, t.2.2.1), wux, fun _ r => .l (.exit 0 (wbd ({ slots := [5], sh := (yj [.arr 7]), obs := [(7, .arr 3 yi)] }) (((), ()), (r, ()))))⟩
noncomputable def T_zo (a1_ : Y1) (a2_ : List Y1) (a3_ : Y1) : Tr Y1 :=
 .c Y1 (wawe (a3_, (((length a2_ : Nat) : Int), (a1_, a2_))) ((0 : Int), ([] : Y1))) fun r9_ =>
 .l r9_
noncomputable def F_zo (a1_ : Y1) (a2_ : List Y1) (a3_ : Y1) : Option Y1 := (T_zo a1_ a2_ a3_).ev
noncomputable def K_zo : RetK := { acts := [.ren 7 0], res := [.tmp 4], sh := (yj [.arr 0]), obs := [(0, .arr 3 yi)], pins := [] }
noncomputable def D_zo : FD := yd (yj [.agg (yj [.dat y1, .dat y2]), .dat y1]) [] [] Y1 (fun x => F_zo x.1.1.1 x.1.1.2.1 x.1.2.1) (fun r => ([.arr 0], [(0, .arr 3 yi r)]))
noncomputable def E_zo : Env := waa [(274, D_zp)]
noncomputable def O_zo : List (Nat × LD) := [(0, wajz)]
noncomputable def C_zo : Code := (f261.body).getD .skip
noncomputable def wuy (k : Int × (Y1 × (Y2 × Y1))) (v : Int × Y1) : Tr ((Int × Y1) ⊕ Y1) :=
 .t (decide (v.1 < k.1))
 (.g (inR v.1 (length k.2.2.2)) <|
 .g (decide ((toNat v.1) < length k.2.2.2)) <|
 .g (inR v.1 (length k.2.2.1)) <|
 .g (inR (getD k.2.2.2 (toNat v.1) 0) (length (getD k.2.2.1 (toNat v.1) ([] : Y1)))) <|
 .g (decide ((length v.2 + length ([(getD (getD k.2.2.1 (toNat v.1) ([] : Y1)) (toNat (getD k.2.2.2 (toNat v.1) 0)) (0 : Int))] : Y1)) * 8 ≤ 140737488355328)) <|
 .l (.inl ((wrap .i64 (v.1 + 1)), (v.2 ++ ([(getD (getD k.2.2.1 (toNat v.1) ([] : Y1)) (toNat (getD k.2.2.2 (toNat v.1) 0)) (0 : Int))] : Y1)))))
 (.l (.inr v.2))
noncomputable def wawf (k : Int × (Y1 × (Y2 × Y1))) (v : Int × Y1) : Option Y1 := iter (fun v => (wuy k v).ev) v
noncomputable def waka : LD := ⟨{ acts := [], S := { slots := [2, 5, 11, 12, 13], sh := (yj [.box 2 0, .arr 8, .arr 704, .dat yi, .dat yi]), obs := [(2, .cells (yj [.dat y1, .dat y2])), (8, .arr 3 yi), (704, .arr 3 yi)] } }, [(0, { acts := [], S := { slots := [5], sh := (yj [.arr 8]), obs := [(8, .arr 3 yi)] } })], (yh [] .nil), Int × (Y1 × (Y2 × Y1)), Int × Y1, Y1, fun k v => (((), ((), ((), (k.1, (v.1, ()))))), ((k.2.1, (k.2.2.1, ())), (v.2, (k.2.2.2, ())))), fun t => (t.1.2.2.2.1, (t.2.1.1, (t.2.1.2.1, t.2.2.2.1))), fun t => (t.1.2.2.2.2.1, t.2.2.1), wuy, fun _ r => .l (.exit 0 (wbd ({ slots := [5], sh := (yj [.arr 8]), obs := [(8, .arr 3 yi)] }) (((), ()), (r, ()))))⟩
noncomputable def T_zl (a1_ : Y1) (a2_ : List Y1) (a3_ : Y1) : Tr Y1 :=
 .c Y1 (F_zo a1_ a2_ a3_) fun r1_ =>
 .c Y1 (wawf (((length r1_ : Nat) : Int), (a1_, (a2_, r1_))) ((0 : Int), ([] : Y1))) fun r9_ =>
 .l r9_
noncomputable def F_zl (a1_ : Y1) (a2_ : List Y1) (a3_ : Y1) : Option Y1 := (T_zl a1_ a2_ a3_).ev
noncomputable def K_zl : RetK := { acts := [.ren 8 0], res := [.tmp 4], sh := (yj [.arr 0]), obs := [(0, .arr 3 yi)], pins := [] }
noncomputable def D_zl : FD := yd (yj [.agg (yj [.dat y1, .dat y2]), .dat y1]) [] [] Y1 (fun x => F_zl x.1.1.1 x.1.1.2.1 x.1.2.1) (fun r => ([.arr 0], [(0, .arr 3 yi r)]))
noncomputable def E_zl : Env := waa [(261, D_zo)]
noncomputable def O_zl : List (Nat × LD) := [(0, waka)]
noncomputable def C_zl : Code := (f237.body).getD .skip
noncomputable def wnh (k : Y1 × Int) (v : Int × Int) : Tr ((Int × Int) ⊕ (Int)) :=
 .t (decide (v.2 < k.2))
 (.g (inR v.2 (length k.1)) <|
 .l (.inl ((wrap .i64 (v.1 + (getD k.1 (toNat v.2) 0))), (wrap .i64 (v.2 + 1)))))
 (.l (.inr v.1))
noncomputable def wakb (k : Y1 × Int) (v : Int × Int) : Option (Int) := iter (fun v => (wnh k v).ev) v
noncomputable def wabo : LD := ⟨(yh [3, 6, 7, 8] (yj [.dat yi, .dat y1, .dat yi, .dat yi])), [(0, (yh [3] (yj [.dat yi])))], (yh [] .nil), Y1 × (Int), Int × (Int), Int, fun k v => ((v.1, (k.1, (k.2, (v.2, ())))), ()), fun t => (t.1.2.1, t.1.2.2.1), fun t => (t.1.1, t.1.2.2.2.1), wnh, fun _ r => .l (.exit 0 (wbd ((ys [3] (yj [.dat yi]))) ((r, ()), ())))⟩
noncomputable def wbev (a1_ : Y1) : Tr (Int) :=
 .c (Int) (wakb (a1_, ((length a1_ : Nat) : Int)) ((0 : Int), (0 : Int))) fun r6_ =>
 .l r6_
noncomputable def warl (a1_ : Y1) : Option (Int) := (wbev a1_).ev
noncomputable def wbxi : RetK := yr [.tmp 2] (yj [.dat yi])
noncomputable def wbew : FD := yd (yj [.dat y1]) [] [] Int (fun x => warl x.1.1) (fun r => ([.dat yi r], []))
noncomputable def wbex : Env := waa []
noncomputable def wbey : List (Nat × LD) := [(0, wabo)]
noncomputable def wbez : Code := (f236.body).getD .skip
noncomputable def T_zq (a1_ : Y1) (a2_ : List Y1) (a3_ : Y1) : Tr (Int) :=
 .c Y1 (F_zl a1_ a2_ a3_) fun r1_ =>
 .c (Int) (warl r1_) fun r2_ =>
 .l r2_
noncomputable def F_zq (a1_ : Y1) (a2_ : List Y1) (a3_ : Y1) : Option (Int) := (T_zq a1_ a2_ a3_).ev
noncomputable def K_zq : RetK := yr [.tmp 4] (yj [.dat yi])
noncomputable def D_zq : FD := yd (yj [.agg (yj [.dat y1, .dat y2]), .dat y1]) [] [] Int (fun x => F_zq x.1.1.1 x.1.1.2.1 x.1.2.1) (fun r => ([.dat yi r], []))
noncomputable def T_zr (a1_ : Y1) (a2_ : List Y1) (a3_ : Y1) : Tr (Int) :=
 .c (Int) (F_zn a1_ a2_ a3_) fun r1_ =>
 .c (Int) (F_zq a1_ a2_ a3_) fun r2_ =>
 .l (wrap .i64 (r1_ + r2_))
noncomputable def F_zr (a1_ : Y1) (a2_ : List Y1) (a3_ : Y1) : Option (Int) := (T_zr a1_ a2_ a3_).ev
noncomputable def K_zr : RetK := yr [.tmp 4] (yj [.dat yi])
noncomputable def D_zr : FD := yd (yj [.agg (yj [.dat y1, .dat y2]), .dat y1]) [] [] Int (fun x => F_zr x.1.1.1 x.1.1.2.1 x.1.2.1) (fun r => ([.dat yi r], []))
noncomputable def T_zj (a1_ : Y1) (a2_ : Y1) (a3_ : List Y1) (a4_ : Int) : Tr ((Y1 × (Y1 × (Y2 × Int))) ⊕ (Y1 × (Y1 × (Y2 × Int)))) :=
 .c (Int) (F_zr a2_ a3_ a1_) fun r1_ =>
 .t (decide (r1_ < a4_))
 (.g (decide (0 < length a1_)) <|
 .l (.inr (a1_, (a2_, (a3_, a4_)))))
 (.l (.inl (a1_, (a2_, (a3_, a4_)))))
noncomputable def F_zj (a1_ : Y1) (a2_ : Y1) (a3_ : List Y1) (a4_ : Int) : Option ((Y1 × (Y1 × (Y2 × Int))) ⊕ (Y1 × (Y1 × (Y2 × Int)))) := (T_zj a1_ a2_ a3_ a4_).ev
noncomputable def K_zj : RetK := { acts := [], res := [.tmp 5], sh := (yj [.dat .bool]), obs := [(64, .arr 3 yi), (65, .cells (yj [.dat y1, .dat y2])), (66, .cells (yj [.dat yi])), (67, .cells (yj [.nilsl]))], pins := [(0, 0, 64), (1, 0, 65), (2, 0, 66), (3, 0, 67)] }
noncomputable def wbmd : RetK := { acts := [], res := [.tmp 5], sh := (yj [.dat .bool]), obs := [(64, .arr 3 yi), (65, .cells (yj [.dat y1, .dat y2])), (66, .cells (yj [.dat yi])), (67, .cells (yj [.arr 64]))], pins := [(0, 0, 64), (1, 0, 65), (2, 0, 66), (3, 0, 67)] }
noncomputable def D_zj : FD := { (yd (yj [.arr 64, .box 65 0, .box 66 0, .box 67 0]) [(64, .arr 3 yi), (65, .cells (yj [.dat y1, .dat y2])), (66, .cells (yj [.dat yi])), (67, .cells (yj [.nilsl]))] [.arg 0, .arg 1, .arg 2, .arg 3] ((Y1 × (Y1 × (Y2 × Int))) ⊕ (Y1 × (Y1 × (Y2 × Int)))) (fun x => F_zj x.2.1 x.2.2.1.1 x.2.2.1.2.1 x.2.2.2.1.1) (fun r => match r with | .inl a => ([.dat .bool true], [(64, .arr 3 yi a.1), (65, .cells [.dat y1 a.2.1, .dat y2 a.2.2.1]), (66, .cells [.dat yi a.2.2.2]), (67, .cells [.nilsl])]) | .inr b => ([.dat .bool false], [(64, .arr 3 yi b.1), (65, .cells [.dat y1 b.2.1, .dat y2 b.2.2.1]), (66, .cells [.dat yi b.2.2.2]), (67, .cells [.arr 64])]))) with
 sp := fun r => .s (Y1 × (Y1 × (Y2 × Int))) (Y1 × (Y1 × (Y2 × Int))) r (fun a => .l ([.dat .bool true], [(64, .arr 3 yi a.1), (65, .cells [.dat y1 a.2.1, .dat y2 a.2.2.1]), (66, .cells [.dat yi a.2.2.2]), (67, .cells [.nilsl])])) (fun b => .l ([.dat .bool false], [(64, .arr 3 yi b.1), (65, .cells [.dat y1 b.2.1, .dat y2 b.2.2.1]), (66, .cells [.dat yi b.2.2.2]), (67, .cells [.arr 64])]))
 spok := fun r => by cases r <;> rfl }
noncomputable def wuz (k : Y1 × (Int × (Int × Int))) (v : Int × (Y1 × (Y2 × Int))) : Tr ((Int × (Y1 × (Y2 × Int))) ⊕ ((Y1 × (Y2 × Int)) ⊕ (Y1 × (Y2 × (Int × Y1))))) :=
 .t (decide (v.1 < k.2.2.2))
 (.c (Bool) (F_zz k.2.1 v.1) fun r10_ =>
 .t (!r10_)
 (.g (decide (0 ≤ v.1)) <|
 .c Y1 (wkt (wrap .u64 (BitVec.toNat ((BitVec.ofInt (IntKind.bits .u64) k.2.1) ||| (BitVec.ofInt (IntKind.bits .u64) (wrap .u64 ((1 : Int) * 2 ^ (min (toNat v.1) (IntKind.bits .u64))))))))) fun r11_ =>
 .c ((Y1 × (Y1 × (Y2 × Int))) ⊕ (Y1 × (Y1 × (Y2 × Int)))) (F_zj r11_ v.2.1 v.2.2.1 v.2.2.2) fun r12_ =>
 .s (Y1 × (Y1 × (Y2 × Int))) (Y1 × (Y1 × (Y2 × Int))) r12_
 (fun r13_ => .l (.inl ((wrap .i64 (v.1 + 1)), (r13_.2.1, (r13_.2.2.1, r13_.2.2.2)))))
 (fun r14_ => .l (.inr (.inr (r14_.2.1, (r14_.2.2.1, (r14_.2.2.2, r14_.1)))))))
 (.l (.inl ((wrap .i64 (v.1 + 1)), (v.2.1, (v.2.2.1, v.2.2.2))))))
 (.l (.inr (.inl (v.2.1, (v.2.2.1, v.2.2.2)))))
noncomputable def wawg (k : Y1 × (Int × (Int × Int))) (v : Int × (Y1 × (Y2 × Int))) : Option ((Y1 × (Y2 × Int)) ⊕ (Y1 × (Y2 × (Int × Y1)))) := iter (fun v => (wuz k v).ev) v
noncomputable def wakd : LD := ⟨{ acts := [], S := { slots := [1, 2, 6, 7, 19, 20], sh := (yj [.dat y1, .fn 226 (yj [.box 64 0, .box 65 0, .box 66 0]), .dat (.int .u64), .dat yi, .dat yi, .dat yi]), obs := [(64, .cells (yj [.dat y1, .dat y2])), (65, .cells (yj [.dat yi])), (66, .cells (yj [.nilsl]))] } }, [(0, { acts := [], S := { slots := [1, 2, 6, 7], sh := (yj [.dat y1, .fn 226 (yj [.box 64 0, .box 65 0, .box 66 0]), .dat (.int .u64), .dat yi]), obs := [(64, .cells (yj [.dat y1, .dat y2])), (65, .cells (yj [.dat yi])), (66, .cells (yj [.nilsl]))] } })], { acts := [], S := { slots := [2], sh := (yj [.fn 226 (yj [.box 64 0, .box 65 0, .box 66 0])]), obs := [(64, .cells (yj [.dat y1, .dat y2])), (65, .cells (yj [.dat yi])), (66, .cells (yj [.arr 2112])), (2112, .arr 3 yi)] } }, Y1 × (Int × (Int × Int)), Int × (Y1 × (Y2 × Int)), (Y1 × (Y2 × Int)) ⊕ (Y1 × (Y2 × (Int × Y1))), fun k v => ((k.1, (((), ((), ((), ()))), (k.2.1, (k.2.2.1, (k.2.2.2, (v.1, ())))))), ((v.2.1, (v.2.2.1, ())), ((v.2.2.2, ()), (((), ()), ())))), fun t => (t.1.1, (t.1.2.2.1, (t.1.2.2.2.1, t.1.2.2.2.2.1))), fun t => (t.1.2.2.2.2.2.1, (t.2.1.1, (t.2.1.2.1, t.2.2.1.1))), wuz, fun k r => .s (Y1 × (Y2 × Int)) (Y1 × (Y2 × (Int × Y1))) r (fun a => .l (.exit 0 (wbd ({ slots := [1, 2, 6, 7], sh := (yj [.dat y1, .fn 226 (yj [.box 64 0, .box 65 0, .box 66 0]), .dat (.int .u64), .dat yi]), obs := [(64, .cells (yj [.dat y1, .dat y2])), (65, .cells (yj [.dat yi])), (66, .cells (yj [.nilsl]))] }) ((k.1, (((), ((), ((), ()))), (k.2.1, (k.2.2.1, ())))), ((a.1, (a.2.1, ())), ((a.2.2, ()), (((), ()), ()))))))) (fun b => .l (.ret (wbd ({ slots := [2], sh := (yj [.fn 226 (yj [.box 64 0, .box 65 0, .box 66 0])]), obs := [(64, .cells (yj [.dat y1, .dat y2])), (65, .cells (yj [.dat yi])), (66, .cells (yj [.arr 2112])), (2112, .arr 3 yi)] }) ((((), ((), ((), ()))), ()), ((b.1, (b.2.1, ())), ((b.2.2.1, ()), (((), ()), (b.2.2.2, ()))))))))⟩
noncomputable def wva (k : Y1 × (Int × (Int × (Y1 × Int)))) (v : Int × (Y1 × (Y2 × Int))) : Tr ((Int × (Y1 × (Y2 × Int))) ⊕ ((Y1 × (Y2 × Int)) ⊕ (Y1 × (Y2 × (Int × Y1))))) :=
 .t (decide (v.1 < k.2.2.2.2))
 (.g (inR v.1 (length k.2.2.2.1)) <|
 .t (decide ((1 : Int) < ((length k.1 : Nat) : Int)))
 (.g (decide ((0 : Int) ≤ (getD k.2.2.2.1 (toNat v.1) 0))) <|
 .c Y1 (wkt (wrap .u64 (BitVec.toNat ((BitVec.ofInt (IntKind.bits .u64) k.2.1) &&& ~~~(BitVec.ofInt (IntKind.bits .u64) (wrap .u64 ((1 : Int) * 2 ^ (min (toNat (getD k.2.2.2.1 (toNat v.1) 0)) (IntKind.bits .u64))))))))) fun r37_ =>
 .c ((Y1 × (Y1 × (Y2 × Int))) ⊕ (Y1 × (Y1 × (Y2 × Int)))) (F_zj r37_ v.2.1 v.2.2.1 v.2.2.2) fun r38_ =>
 .s (Y1 × (Y1 × (Y2 × Int))) (Y1 × (Y1 × (Y2 × Int))) r38_
 (fun r39_ => .l (.inl ((wrap .i64 (v.1 + 1)), (r39_.2.1, (r39_.2.2.1, r39_.2.2.2)))))
 (fun r40_ => .l (.inr (.inr (r40_.2.1, (r40_.2.2.1, (r40_.2.2.2, r40_.1)))))))
 (.l (.inl ((wrap .i64 (v.1 + 1)), (v.2.1, (v.2.2.1, v.2.2.2))))))
 (.l (.inr (.inl (v.2.1, (v.2.2.1, v.2.2.2)))))
noncomputable def wawh (k : Y1 × (Int × (Int × (Y1 × Int)))) (v : Int × (Y1 × (Y2 × Int))) : Option ((Y1 × (Y2 × Int)) ⊕ (Y1 × (Y2 × (Int × Y1)))) := iter (fun v => (wva k v).ev) v
noncomputable def wakf : LD := ⟨{ acts := [], S := { slots := [1, 2, 6, 7, 38, 39, 40], sh := (yj [.dat y1, .fn 226 (yj [.box 64 0, .box 65 0, .box 66 0]), .dat (.int .u64), .dat yi, .dat y1, .dat yi, .dat yi]), obs := [(64, .cells (yj [.dat y1, .dat y2])), (65, .cells (yj [.dat yi])), (66, .cells (yj [.nilsl]))] } }, [(2, { acts := [], S := { slots := [1, 2, 6, 7], sh := (yj [.dat y1, .fn 226 (yj [.box 64 0, .box 65 0, .box 66 0]), .dat (.int .u64), .dat yi]), obs := [(64, .cells (yj [.dat y1, .dat y2])), (65, .cells (yj [.dat yi])), (66, .cells (yj [.nilsl]))] } })], { acts := [], S := { slots := [2], sh := (yj [.fn 226 (yj [.box 64 0, .box 65 0, .box 66 0])]), obs := [(64, .cells (yj [.dat y1, .dat y2])), (65, .cells (yj [.dat yi])), (66, .cells (yj [.arr 3392])), (3392, .arr 3 yi)] } }, Y1 × (Int × (Int × (Y1 × Int))), Int × (Y1 × (Y2 × Int)), (Y1 × (Y2 × Int)) ⊕ (Y1 × (Y2 × (Int × Y1))), fun k v => ((k.1, (((), ((), ((), ()))), (k.2.1, (k.2.2.1, (k.2.2.2.1, (k.2.2.2.2, (v.1, ()))))))), ((v.2.1, (v.2.2.1, ())), ((v.2.2.2, ()), (((), ()), ())))), fun t => (t.1.1, (t.1.2.2.1, (t.1.2.2.2.1, (t.1.2.2.2.2.1, t.1.2.2.2.2.2.1)))), fun t => (t.1.2.2.2.2.2.2.1, (t.2.1.1, (t.2.1.2.1, t.2.2.1.1))), wva, fun k r => .s (Y1 × (Y2 × Int)) (Y1 × (Y2 × (Int × Y1))) r (fun a => .l (.exit 2 (wbd ({ slots := [1, 2, 6, 7], sh := (yj [.dat y1, .fn 226 (yj [.box 64 0, .box 65 0, .box 66 0]), .dat (.int .u64), .dat yi]), obs := [(64, .cells (yj [.dat y1, .dat y2])), (65, .cells (yj [.dat yi])), (66, .cells (yj [.nilsl]))] }) ((k.1, (((), ((), ((), ()))), (k.2.1, (k.2.2.1, ())))), ((a.1, (a.2.1, ())), ((a.2.2, ()), (((), ()), ()))))))) (fun b => .l (.ret (wbd ({ slots := [2], sh := (yj [.fn 226 (yj [.box 64 0, .box 65 0, .box 66 0])]), obs := [(64, .cells (yj [.dat y1, .dat y2])), (65, .cells (yj [.dat yi])), (66, .cells (yj [.arr 3392])), (3392, .arr 3 yi)] }) ((((), ((), ((), ()))), ()), ((b.1, (b.2.1, ())), ((b.2.2.1, ()), (((), ()), (b.2.2.2, ()))))))))⟩
noncomputable def wvb (k : Y1 × (Int × (Int × (Int × (Y1 × (Int × (Int × Int))))))) (v : Int × (Y1 × (Y2 × Int))) : Tr ((Int × (Y1 × (Y2 × Int))) ⊕ ((Y1 × (Y2 × Int)) ⊕ (Y1 × (Y2 × (Int × Y1))))) :=
 .t (decide (v.1 < k.2.2.2.2.2.2.2))
 (.c (Bool) (F_zz k.2.1 v.1) fun r75_ =>
 .t (!r75_)
 (.c Y1 (wajw k.1 k.2.2.2.1 v.1) fun r76_ =>
 .c ((Y1 × (Y1 × (Y2 × Int))) ⊕ (Y1 × (Y1 × (Y2 × Int)))) (F_zj r76_ v.2.1 v.2.2.1 v.2.2.2) fun r77_ =>
 .s (Y1 × (Y1 × (Y2 × Int))) (Y1 × (Y1 × (Y2 × Int))) r77_
 (fun r78_ => .l (.inl ((wrap .i64 (v.1 + 1)), (r78_.2.1, (r78_.2.2.1, r78_.2.2.2)))))
 (fun r79_ => .l (.inr (.inr (r79_.2.1, (r79_.2.2.1, (r79_.2.2.2, r79_.1)))))))
 (.l (.inl ((wrap .i64 (v.1 + 1)), (v.2.1, (v.2.2.1, v.2.2.2))))))
 (.l (.inr (.inl (v.2.1, (v.2.2.1, v.2.2.2)))))
noncomputable def wawi (k : Y1 × (Int × (Int × (Int × (Y1 × (Int × (Int × Int))))))) (v : Int × (Y1 × (Y2 × Int))) : Option ((Y1 × (Y2 × Int)) ⊕ (Y1 × (Y2 × (Int × Y1)))) := iter (fun v => (wvb k v).ev) v
noncomputable def wakg : LD := ⟨{ acts := [], S := { slots := [1, 2, 6, 7, 12, 58, 59, 60, 64, 65], sh := (yj [.dat y1, .fn 226 (yj [.box 64 0, .box 65 0, .box 66 0]), .dat (.int .u64), .dat yi, .dat yi, .dat y1, .dat yi, .dat yi, .dat yi, .dat yi]), obs := [(64, .cells (yj [.dat y1, .dat y2])), (65, .cells (yj [.dat yi])), (66, .cells (yj [.nilsl]))] } }, [(6, { acts := [], S := { slots := [1, 2, 6, 7, 58, 59, 60], sh := (yj [.dat y1, .fn 226 (yj [.box 64 0, .box 65 0, .box 66 0]), .dat (.int .u64), .dat yi, .dat y1, .dat yi, .dat yi]), obs := [(64, .cells (yj [.dat y1, .dat y2])), (65, .cells (yj [.dat yi])), (66, .cells (yj [.nilsl]))] } })], { acts := [], S := { slots := [2], sh := (yj [.fn 226 (yj [.box 64 0, .box 65 0, .box 66 0])]), obs := [(64, .cells (yj [.dat y1, .dat y2])), (65, .cells (yj [.dat yi])), (66, .cells (yj [.arr 4928])), (4928, .arr 3 yi)] } }, Y1 × (Int × (Int × (Int × (Y1 × (Int × (Int × Int)))))), Int × (Y1 × (Y2 × Int)), (Y1 × (Y2 × Int)) ⊕ (Y1 × (Y2 × (Int × Y1))), fun k v => ((k.1, (((), ((), ((), ()))), (k.2.1, (k.2.2.1, (k.2.2.2.1, (k.2.2.2.2.1, (k.2.2.2.2.2.1, (k.2.2.2.2.2.2.1, (k.2.2.2.2.2.2.2, (v.1, ())))))))))), ((v.2.1, (v.2.2.1, ())), ((v.2.2.2, ()), (((), ()), ())))), fun t => (t.1.1, (t.1.2.2.1, (t.1.2.2.2.1, (t.1.2.2.2.2.1, (t.1.2.2.2.2.2.1, (t.1.2.2.2.2.2.2.1, (t.1.2.2.2.2.2.2.2.1, t.1.2.2.2.2.2.2.2.2.1))))))), fun t => (t.1.2.2.2.2.2.2.2.2.2.1, (t.2.1.1, (t.2.1.2.1, t.2.2.1.1))), wvb, fun k r => .s (Y1 × (Y2 × Int)) (Y1 × (Y2 × (Int × Y1))) r (fun a => .l (.exit 6 (wbd ({ slots := [1, 2, 6, 7, 58, 59, 60], sh := (yj [.dat y1, .fn 226 (yj [.box 64 0, .box 65 0, .box 66 0]), .dat (.int .u64), .dat yi, .dat y1, .dat yi, .dat yi]), obs := [(64, .cells (yj [.dat y1, .dat y2])), (65, .cells (yj [.dat yi])), (66, .cells (yj [.nilsl]))] }) ((k.1, (((), ((), ((), ()))), (k.2.1, (k.2.2.1, (k.2.2.2.2.1, (k.2.2.2.2.2.1, (k.2.2.2.2.2.2.1, ()))))))), ((a.1, (a.2.1, ())), ((a.2.2, ()), (((), ()), ()))))))) (fun b => .l (.ret (wbd ({ slots := [2], sh := (yj [.fn 226 (yj [.box 64 0, .box 65 0, .box 66 0])]), obs := [(64, .cells (yj [.dat y1, .dat y2])), (65, .cells (yj [.dat yi])), (66, .cells (yj [.arr 4928])), (4928, .arr 3 yi)] }) ((((), ((), ((), ()))), ()), ((b.1, (b.2.1, ())), ((b.2.2.1, ()), (((), ()), (b.2.2.2, ()))))))))⟩
noncomputable def wvc (k : Y1 × (Int × (Int × (Y1 × Int)))) (v : Int × (Y1 × (Y2 × Int))) : Tr ((Int × (Y1 × (Y2 × Int))) ⊕ ((Y1 × (Y2 × Int)) ⊕ (Y1 × (Y2 × (Int × Y1))))) :=
 .t (decide (v.1 < k.2.2.2.2))
 (.g (inR v.1 (length k.2.2.2.1)) <|
 .c ((Y1 × (Y2 × Int)) ⊕ (Y1 × (Y2 × (Int × Y1)))) (wawi (k.1, (k.2.1, (k.2.2.1, ((getD k.2.2.2.1 (toNat v.1) 0), (k.2.2.2.1, (k.2.2.2.2, (v.1, k.2.2.1))))))) ((0 : Int), (v.2.1, (v.2.2.1, v.2.2.2)))) fun r93_ =>
 .s (Y1 × (Y2 × Int)) (Y1 × (Y2 × (Int × Y1))) r93_
 (fun r94_ => .l (.inl ((wrap .i64 (v.1 + 1)), (r94_.1, (r94_.2.1, r94_.2.2)))))
 (fun r95_ => .l (.inr (.inr (r95_.1, (r95_.2.1, (r95_.2.2.1, r95_.2.2.2)))))))
 (.l (.inr (.inl (v.2.1, (v.2.2.1, v.2.2.2)))))
noncomputable def wawj (k : Y1 × (Int × (Int × (Y1 × Int)))) (v : Int × (Y1 × (Y2 × Int))) : Option ((Y1 × (Y2 × Int)) ⊕ (Y1 × (Y2 × (Int × Y1)))) := iter (fun v => (wvc k v).ev) v
noncomputable def wakh : LD := ⟨{ acts := [], S := { slots := [1, 2, 6, 7, 58, 59, 60], sh := (yj [.dat y1, .fn 226 (yj [.box 64 0, .box 65 0, .box 66 0]), .dat (.int .u64), .dat yi, .dat y1, .dat yi, .dat yi]), obs := [(64, .cells (yj [.dat y1, .dat y2])), (65, .cells (yj [.dat yi])), (66, .cells (yj [.nilsl]))] } }, [(4, { acts := [], S := { slots := [2], sh := (yj [.fn 226 (yj [.box 64 0, .box 65 0, .box 66 0])]), obs := [(64, .cells (yj [.dat y1, .dat y2])), (65, .cells (yj [.dat yi])), (66, .cells (yj [.nilsl]))] } })], { acts := [], S := { slots := [2], sh := (yj [.fn 226 (yj [.box 64 0, .box 65 0, .box 66 0])]), obs := [(64, .cells (yj [.dat y1, .dat y2])), (65, .cells (yj [.dat yi])), (66, .cells (yj [.arr 4928])), (4928, .arr 3 yi)] } }, Y1 × (Int × (Int × (Y1 × Int))), Int × (Y1 × (Y2 × Int)), (Y1 × (Y2 × Int)) ⊕ (Y1 × (Y2 × (Int × Y1))), fun k v => ((k.1, (((), ((), ((), ()))), (k.2.1, (k.2.2.1, (k.2.2.2.1, (k.2.2.2.2, (v.1, ()))))))), ((v.2.1, (v.2.2.1, ())), ((v.2.2.2, ()), (((), ()), ())))), fun t => (t.1.1, (t.1.2.2.1, (t.1.2.2.2.1, (t.1.2.2.2.2.1, t.1.2.2.2.2.2.1)))), fun t => (t.1.2.2.2.2.2.2.1, (t.2.1.1, (t.2.1.2.1, t.2.2.1.1))), wvc, fun _ r => .s (Y1 × (Y2 × Int)) (Y1 × (Y2 × (Int × Y1))) r (fun a => .l (.exit 4 (wbd ({ slots := [2], sh := (yj [.fn 226 (yj [.box 64 0, .box 65 0, .box 66 0])]), obs := [(64, .cells (yj [.dat y1, .dat y2])), (65, .cells (yj [.dat yi])), (66, .cells (yj [.nilsl]))] }) ((((), ((), ((), ()))), ()), ((a.1, (a.2.1, ())), ((a.2.2, ()), (((), ()), ()))))))) (fun b => .l (.ret (wbd ({ slots := [2], sh := (yj [.fn 226 (yj [.box 64 0, .box 65 0, .box 66 0])]), obs := [(64, .cells (yj [.dat y1, .dat y2])), (65, .cells (yj [.dat yi])), (66, .cells (yj [.arr 4928])), (4928, .arr 3 yi)] }) ((((), ((), ((), ()))), ()), ((b.1, (b.2.1, ())), ((b.2.2.1, ()), (((), ()), (b.2.2.2, ()))))))))⟩
noncomputable def T_zm (a1_ : Y1) (_a2_ : List Y1) (a3_ : Y1) (a4_ : Y1) (a5_ : List Y1) (a6_ : Int) : Tr ((Y1 × (Y2 × Int)) ⊕ (Y1 × (Y2 × (Int × Y1)))) :=
 .c (Int) (F_zy a3_) fun r1_ =>
 .c ((Y1 × (Y2 × Int)) ⊕ (Y1 × (Y2 × (Int × Y1)))) (wawg (a3_, (r1_, (((length a1_ : Nat) : Int), ((length a1_ : Nat) : Int)))) ((0 : Int), (a4_, (a5_, a6_)))) fun r25_ =>
 .s (Y1 × (Y2 × Int)) (Y1 × (Y2 × (Int × Y1))) r25_
 (fun r26_ => .c ((Y1 × (Y2 × Int)) ⊕ (Y1 × (Y2 × (Int × Y1)))) (wawh (a3_, (r1_, (((length a1_ : Nat) : Int), (a3_, ((length a3_ : Nat) : Int))))) ((0 : Int), (r26_.1, (r26_.2.1, r26_.2.2)))) fun r51_ =>
 .s (Y1 × (Y2 × Int)) (Y1 × (Y2 × (Int × Y1))) r51_
 (fun r52_ => .c ((Y1 × (Y2 × Int)) ⊕ (Y1 × (Y2 × (Int × Y1)))) (wawj (a3_, (r1_, (((length a1_ : Nat) : Int), (a3_, ((length a3_ : Nat) : Int))))) ((0 : Int), (r52_.1, (r52_.2.1, r52_.2.2)))) fun r103_ =>
 .s (Y1 × (Y2 × Int)) (Y1 × (Y2 × (Int × Y1))) r103_
 (fun r104_ => .l (.inl (r104_.1, (r104_.2.1, r104_.2.2))))
 (fun r105_ => .l (.inr (r105_.1, (r105_.2.1, (r105_.2.2.1, r105_.2.2.2))))))
 (fun r53_ => .l (.inr (r53_.1, (r53_.2.1, (r53_.2.2.1, r53_.2.2.2))))))
 (fun r27_ => .l (.inr (r27_.1, (r27_.2.1, (r27_.2.2.1, r27_.2.2.2)))))
noncomputable def F_zm (a1_ : Y1) (a2_ : List Y1) (a3_ : Y1) (a4_ : Y1) (a5_ : List Y1) (a6_ : Int) : Option ((Y1 × (Y2 × Int)) ⊕ (Y1 × (Y2 × (Int × Y1)))) := (T_zm a1_ a2_ a3_ a4_ a5_ a6_).ev
noncomputable def K_zm : RetK := { acts := [], res := [], sh := .nil, obs := [(64, .cells (yj [.dat y1, .dat y2])), (65, .cells (yj [.dat yi])), (66, .cells (yj [.nilsl]))], pins := [(2, 1, 64), (2, 2, 65), (2, 3, 66)] }
noncomputable def wbme : RetK := { acts := [.ren 4928 0, .ren 3392 0, .ren 2112 0], res := [], sh := .nil, obs := [(64, .cells (yj [.dat y1, .dat y2])), (65, .cells (yj [.dat yi])), (66, .cells (yj [.arr 0])), (0, .arr 3 yi)], pins := [(2, 1, 64), (2, 2, 65), (2, 3, 66)] }
noncomputable def D_zm : FD := { (yd (yj [.agg (yj [.dat y1, .dat y2]), .dat y1, .fn 226 (yj [.box 64 0, .box 65 0, .box 66 0])]) [(64, .cells (yj [.dat y1, .dat y2])), (65, .cells (yj [.dat yi])), (66, .cells (yj [.nilsl]))] [.cap 2 0, .cap 2 1, .cap 2 2] ((Y1 × (Y2 × Int)) ⊕ (Y1 × (Y2 × (Int × Y1)))) (fun x => F_zm x.1.1.1 x.1.1.2.1 x.1.2.1 x.2.1.1 x.2.1.2.1 x.2.2.1.1) (fun r => match r with | .inl a => ([], [(64, .cells [.dat y1 a.1, .dat y2 a.2.1]), (65, .cells [.dat yi a.2.2]), (66, .cells [.nilsl])]) | .inr b => ([], [(64, .cells [.dat y1 b.1, .dat y2 b.2.1]), (65, .cells [.dat yi b.2.2.1]), (66, .cells [.arr 0]), (0, .arr 3 yi b.2.2.2)]))) with
 sp := fun r => .s (Y1 × (Y2 × Int)) (Y1 × (Y2 × (Int × Y1))) r (fun a => .l ([], [(64, .cells [.dat y1 a.1, .dat y2 a.2.1]), (65, .cells [.dat yi a.2.2]), (66, .cells [.nilsl])])) (fun b => .l ([], [(64, .cells [.dat y1 b.1, .dat y2 b.2.1]), (65, .cells [.dat yi b.2.2.1]), (66, .cells [.arr 0]), (0, .arr 3 yi b.2.2.2)]))
 spok := fun r => by cases r <;> rfl }
noncomputable def E_zm : Env := waa [(141, D_zy), (143, D_zz), (144, waeq), (226, D_zj), (145, wari)]
noncomputable def O_zm : List (Nat × LD) := [(0, wakd), (2, wakf), (6, wakg), (4, wakh)]
noncomputable def C_zm : Code := (f225.body).getD .skip
noncomputable def T_zi (a1_ : Y1) (a2_ : List Y1) (a3_ : Y1) : Tr (Bool × Y1) :=
 .c (Int) (F_zr a1_ a2_ a3_) fun r1_ =>
 .c ((Y1 × (Y2 × Int)) ⊕ (Y1 × (Y2 × (Int × Y1)))) (F_zm a1_ a2_ a3_ a1_ a2_ r1_) fun r2_ =>
 .s (Y1 × (Y2 × Int)) (Y1 × (Y2 × (Int × Y1))) r2_
 (fun _ => .l (false, ([] : Y1)))
 (fun r4_ => .g (decide (0 < length r4_.2.2.2)) <|
 .l (true, r4_.2.2.2))
noncomputable def F_zi (a1_ : Y1) (a2_ : List Y1) (a3_ : Y1) : Option (Bool × Y1) := (T_zi a1_ a2_ a3_).ev
noncomputable def K_zi : RetK := { acts := [.own 4 0 3 yi, .ren 896 0], res := [.tmp 4, .tmp 5], sh := (yj [.arr 0, .dat .bool]), obs := [(0, .arr 3 yi)], pins := [] }
noncomputable def D_zi : FD := yd (yj [.agg (yj [.dat y1, .dat y2]), .dat y1]) [] [] (Bool × Y1) (fun x => F_zi x.1.1.1 x.1.1.2.1 x.1.2.1) (fun r => ([.arr 0, .dat .bool r.1], [(0, .arr 3 yi r.2)]))
noncomputable def wvd (k : Y1 × Y2) (v : Int × Y1) : Tr ((Int × Y1) ⊕ (Int × Y1)) :=
 .c (Bool × Y1) (F_zi k.1 k.2 v.2) fun r7_ =>
 .t (!r7_.1)
 (.l (.inr (v.1, v.2)))
 (.l (.inl ((wrap .i64 (v.1 + 1)), r7_.2)))
noncomputable def wve (k : Y1 × Y2) (v : Int × Y1) : Option (Int × Y1) := iter (fun v => (wvd k v).ev) v
noncomputable def waki : LD := ⟨{ acts := [.rep 1408 1024], S := { slots := [2, 7, 8], sh := (yj [.box 2 0, .arr 1024, .dat yi]), obs := [(2, .cells (yj [.dat y1, .dat y2])), (1024, .arr 3 yi)] } }, [], { acts := [], S := { slots := [4, 5, 6], sh := (yj [.arr 1024, .dat yi, .dat .bool]), obs := [(1024, .arr 3 yi)] } }, Y1 × Y2, Int × Y1, Int × Y1, fun k v => (((), ((), (v.1, ()))), ((k.1, (k.2, ())), (v.2, ()))), fun t => (t.2.1.1, t.2.1.2.1), fun t => (t.1.2.2.1, t.2.2.1), wvd, fun _ r => .l (.ret (wbd ({ slots := [4, 5, 6], sh := (yj [.arr 1024, .dat yi, .dat .bool]), obs := [(1024, .arr 3 yi)] }) (((), (r.1, (true, ()))), (r.2, ()))))⟩
noncomputable def T_zv (a1_ : Y1) (a2_ : List Y1) (a3_ : Y1) : Tr (Int × (Bool × Y1)) :=
 .c (Bool) (wark a1_ a2_ a3_) fun r1_ =>
 .t (!r1_)
 (.l ((0 : Int), (false, ([] : Y1))))
 (.c (List Int) (wqv a3_) fun r2_ =>
 .c (Int × Y1) (wve (a1_, a2_) ((0 : Int), r2_)) fun r11_ =>
 .l (r11_.1, (true, r11_.2)))
noncomputable def F_zv (a1_ : Y1) (a2_ : List Y1) (a3_ : Y1) : Option (Int × (Bool × Y1)) := (T_zv a1_ a2_ a3_).ev
noncomputable def K_zv : RetK := { acts := [.own 4 0 3 yi, .ren 1024 0], res := [.tmp 4, .tmp 5, .tmp 6], sh := (yj [.arr 0, .dat yi, .dat .bool]), obs := [(0, .arr 3 yi)], pins := [] }
noncomputable def D_zv : FD := yd (yj [.agg (yj [.dat y1, .dat y2]), .dat y1]) [] [] (Int × (Bool × Y1)) (fun x => F_zv x.1.1.1 x.1.1.2.1 x.1.2.1) (fun r => ([.arr 0, .dat yi r.1, .dat .bool r.2.1], [(0, .arr 3 yi r.2.2)]))
noncomputable def E_zv : Env := waa [(99, wbeu), (146, wajt), (171, D_zi)]
noncomputable def O_zv : List (Nat × LD) := [(0, waki)]
noncomputable def C_zv : Code := (f77.body).getD .skip
noncomputable def warm (a1_ : Int) : Tr (Int) :=
 .t (decide (4294967296 ≤ a1_))
 (.g (decide ((0 : Int) ≤ (32 : Int))) <|
 .t (decide ((65536 : Int) ≤ (Int.fdiv a1_ (2 ^ (min (toNat 32) (IntKind.bits .u64))))))
 (.g (decide ((0 : Int) ≤ (16 : Int))) <|
 .t (decide ((256 : Int) ≤ (Int.fdiv (Int.fdiv a1_ (2 ^ (min (toNat 32) (IntKind.bits .u64)))) (2 ^ (min (toNat 16) (IntKind.bits .u64))))))
 (.g (decide ((0 : Int) ≤ (8 : Int))) <|
 .g (inR (wrap .u8 (Int.fdiv (Int.fdiv (Int.fdiv a1_ (2 ^ (min (toNat 32) (IntKind.bits .u64)))) (2 ^ (min (toNat 16) (IntKind.bits .u64)))) (2 ^ (min (toNat 8) (IntKind.bits .u64))))) (length ([0, 1, 2, 2, 3, 3, 3, 3, 4, 4, 4, 4, 4, 4, 4, 4, 5, 5, 5, 5, 5, 5, 5, 5, 5, 5, 5, 5, 5, 5, 5, 5, 6, 6, 6, 6, 6, 6, 6, 6, 6, 6, 6, 6, 6, 6, 6, 6, 6, 6, 6, 6, 6, 6, 6, 6, 6, 6, 6, 6, 6, 6, 6, 6, 7, 7, 7, 7, 7, 7, 7, 7, 7, 7, 7, 7, 7, 7, 7, 7, 7, 7, 7, 7, 7, 7, 7, 7, 7, 7, 7, 7, 7, 7, 7, 7, 7, 7, 7, 7, 7, 7, 7, 7, 7, 7, 7, 7, 7, 7, 7, 7, 7, 7, 7, 7, 7, 7, 7, 7, 7, 7, 7, 7, 7, 7, 7, 7, 8, 8, 8, 8, 8, 8, 8, 8, 8, 8, 8, 8, 8, 8, 8, 8, 8, 8, 8, 8, 8, 8, 8, 8, 8, 8, 8, 8, 8, 8, 8, 8, 8, 8, 8, 8, 8, 8, 8, 8, 8, 8, 8, 8, 8, 8, 8, 8, 8, 8, 8, 8, 8, 8, 8, 8, 8, 8, 8, 8, 8, 8, 8, 8, 8, 8, 8, 8, 8, 8, 8, 8, 8, 8, 8, 8, 8, 8, 8, 8, 8, 8, 8, 8, 8, 8, 8, 8, 8, 8, 8, 8, 8, 8, 8, 8, 8, 8, 8, 8, 8, 8, 8, 8, 8, 8, 8, 8, 8, 8, 8, 8, 8, 8, 8, 8, 8, 8, 8, 8, 8, 8, 8, 8, 8, 8, 8, 8] : List UInt8))) <|
 .l (wrap .i64 ((wrap .i64 ((wrap .i64 ((32 : Int) + 16)) + 8)) + (wrap .i64 ((UInt8.toNat (getD ([0, 1, 2, 2, 3, 3, 3, 3, 4, 4, 4, 4, 4, 4, 4, 4, 5, 5, 5, 5, 5, 5, 5, 5, 5, 5, 5, 5, 5, 5, 5, 5, 6, 6, 6, 6, 6, 6, 6, 6, 6, 6, 6, 6, 6, 6, 6, 6, 6, 6, 6, 6, 6, 6, 6, 6, 6, 6, 6, 6, 6, 6, 6, 6, 7, 7, 7, 7, 7, 7, 7, 7, 7, 7, 7, 7, 7, 7, 7, 7, 7, 7, 7, 7, 7, 7, 7, 7, 7, 7, 7, 7, 7, 7, 7, 7, 7, 7, 7, 7, 7, 7, 7, 7, 7, 7, 7, 7, 7, 7, 7, 7, 7, 7, 7, 7, 7, 7, 7, 7, 7, 7, 7, 7, 7, 7, 7, 7, 8, 8, 8, 8, 8, 8, 8, 8, 8, 8, 8, 8, 8, 8, 8, 8, 8, 8, 8, 8, 8, 8, 8, 8, 8, 8, 8, 8, 8, 8, 8, 8, 8, 8, 8, 8, 8, 8, 8, 8, 8, 8, 8, 8, 8, 8, 8, 8, 8, 8, 8, 8, 8, 8, 8, 8, 8, 8, 8, 8, 8, 8, 8, 8, 8, 8, 8, 8, 8, 8, 8, 8, 8, 8, 8, 8, 8, 8, 8, 8, 8, 8, 8, 8, 8, 8, 8, 8, 8, 8, 8, 8, 8, 8, 8, 8, 8, 8, 8, 8, 8, 8, 8, 8, 8, 8, 8, 8, 8, 8, 8, 8, 8, 8, 8, 8, 8, 8, 8, 8, 8, 8, 8, 8, 8, 8, 8, 8] : List UInt8) (toNat (wrap .u8 (Int.fdiv (Int.fdiv (Int.fdiv a1_ (2 ^ (min (toNat 32) (IntKind.bits .u64)))) (2 ^ (min (toNat 16) (IntKind.bits .u64)))) (2 ^ (min (toNat 8) (IntKind.bits .u64)))))) 0) : Nat) : Int)))))
 (.g (inR (wrap .u8 (Int.fdiv (Int.fdiv a1_ (2 ^ (min (toNat 32) (IntKind.bits .u64)))) (2 ^ (min (toNat 16) (IntKind.bits .u64))))) (length ([0, 1, 2, 2, 3, 3, 3, 3, 4, 4, 4, 4, 4, 4, 4, 4, 5, 5, 5, 5, 5, 5, 5, 5, 5, 5, 5, 5, 5, 5, 5, 5, 6, 6, 6, 6, 6, 6, 6, 6, 6, 6, 6, 6, 6, 6, 6, 6, 6, 6, 6, 6, 6, 6, 6, 6, 6, 6, 6, 6, 6, 6, 6, 6, 7, 7, 7, 7, 7, 7, 7, 7, 7, 7, 7, 7, 7, 7, 7, 7, 7, 7, 7, 7, 7, 7, 7, 7, 7, 7, 7, 7, 7, 7, 7, 7, 7, 7, 7, 7, 7, 7, 7, 7, 7, 7, 7, 7, 7, 7, 7, 7, 7, 7, 7, 7, 7, 7, 7, 7, 7, 7, 7, 7, 7, 7, 7, 7, 8, 8, 8, 8, 8, 8, 8, 8, 8, 8, 8, 8, 8, 8, 8, 8, 8, 8, 8, 8, 8, 8, 8, 8, 8, 8, 8, 8, 8, 8, 8, 8, 8, 8, 8, 8, 8, 8, 8, 8, 8, 8, 8, 8, 8, 8, 8, 8, 8, 8, 8, 8, 8, 8, 8, 8, 8, 8, 8, 8, 8, 8, 8, 8, 8, 8, 8, 8, 8, 8, 8, 8, 8, 8, 8, 8, 8, 8, 8, 8, 8, 8, 8, 8, 8, 8, 8, 8, 8, 8, 8, 8, 8, 8, 8, 8, 8, 8, 8, 8, 8, 8, 8, 8, 8, 8, 8, 8, 8, 8, 8, 8, 8, 8, 8, 8, 8, 8, 8, 8, 8, 8, 8, 8, 8, 8, 8, 8] : List UInt8))) <|
 .l (wrap .i64 ((wrap .i64 ((32 : Int) + 16)) + (wrap .i64 ((UInt8.toNat (getD ([0, 1, 2, 2, 3, 3, 3, 3, 4, 4, 4, 4, 4, 4, 4, 4, 5, 5, 5, 5, 5, 5, 5, 5, 5, 5, 5, 5, 5, 5, 5, 5, 6, 6, 6, 6, 6, 6, 6, 6, 6, 6, 6, 6, 6, 6, 6, 6, 6, 6, 6, 6, 6, 6, 6, 6, 6, 6, 6, 6, 6, 6, 6, 6, 7, 7, 7, 7, 7, 7, 7, 7, 7, 7, 7, 7, 7, 7, 7, 7, 7, 7, 7, 7, 7, 7, 7, 7, 7, 7, 7, 7, 7, 7, 7, 7, 7, 7, 7, 7, 7, 7, 7, 7, 7, 7, 7, 7, 7, 7, 7, 7, 7, 7, 7, 7, 7, 7, 7, 7, 7, 7, 7, 7, 7, 7, 7, 7, 8, 8, 8, 8, 8, 8, 8, 8, 8, 8, 8, 8, 8, 8, 8, 8, 8, 8, 8, 8, 8, 8, 8, 8, 8, 8, 8, 8, 8, 8, 8, 8, 8, 8, 8, 8, 8, 8, 8, 8, 8, 8, 8, 8, 8, 8, 8, 8, 8, 8, 8, 8, 8, 8, 8, 8, 8, 8, 8, 8, 8, 8, 8, 8, 8, 8, 8, 8, 8, 8, 8, 8, 8, 8, 8, 8, 8, 8, 8, 8, 8, 8, 8, 8, 8, 8, 8, 8, 8, 8, 8, 8, 8, 8, 8, 8, 8, 8, 8, 8, 8, 8, 8, 8, 8, 8, 8, 8, 8, 8, 8, 8, 8, 8, 8, 8, 8, 8, 8, 8, 8, 8, 8, 8, 8, 8, 8, 8] : List UInt8) (toNat (wrap .u8 (Int.fdiv (Int.fdiv a1_ (2 ^ (min (toNat 32) (IntKind.bits .u64)))) (2 ^ (min (toNat 16) (IntKind.bits .u64)))))) 0) : Nat) : Int))))))
 (.t (decide ((256 : Int) ≤ (Int.fdiv a1_ (2 ^ (min (toNat 32) (IntKind.bits .u64))))))
 (.g (decide ((0 : Int) ≤ (8 : Int))) <|
 .g (inR (wrap .u8 (Int.fdiv (Int.fdiv a1_ (2 ^ (min (toNat 32) (IntKind.bits .u64)))) (2 ^ (min (toNat 8) (IntKind.bits .u64))))) (length ([0, 1, 2, 2, 3, 3, 3, 3, 4, 4, 4, 4, 4, 4, 4, 4, 5, 5, 5, 5, 5, 5, 5, 5, 5, 5, 5, 5, 5, 5, 5, 5, 6, 6, 6, 6, 6, 6, 6, 6, 6, 6, 6, 6, 6, 6, 6, 6, 6, 6, 6, 6, 6, 6, 6, 6, 6, 6, 6, 6, 6, 6, 6, 6, 7, 7, 7, 7, 7, 7, 7, 7, 7, 7, 7, 7, 7, 7, 7, 7, 7, 7, 7, 7, 7, 7, 7, 7, 7, 7, 7, 7, 7, 7, 7, 7, 7, 7, 7, 7, 7, 7, 7, 7, 7, 7, 7, 7, 7, 7, 7, 7, 7, 7, 7, 7, 7, 7, 7, 7, 7, 7, 7, 7, 7, 7, 7, 7, 8, 8, 8, 8, 8, 8, 8, 8, 8, 8, 8, 8, 8, 8, 8, 8, 8, 8, 8, 8, 8, 8, 8, 8, 8, 8, 8, 8, 8, 8, 8, 8, 8, 8, 8, 8, 8, 8, 8, 8, 8, 8, 8, 8, 8, 8, 8, 8, 8, 8, 8, 8, 8, 8, 8, 8, 8, 8, 8, 8, 8, 8, 8, 8, 8, 8, 8, 8, 8, 8, 8, 8, 8, 8, 8, 8, 8, 8, 8, 8, 8, 8, 8, 8, 8, 8, 8, 8, 8, 8, 8, 8, 8, 8, 8, 8, 8, 8, 8, 8, 8, 8, 8, 8, 8, 8, 8, 8, 8, 8, 8, 8, 8, 8, 8, 8, 8, 8, 8, 8, 8, 8, 8, 8, 8, 8, 8, 8] : List UInt8))) <|
 .l (wrap .i64 ((wrap .i64 ((32 : Int) + 8)) + (wrap .i64 ((UInt8.toNat (getD ([0, 1, 2, 2, 3, 3, 3, 3, 4, 4, 4, 4, 4, 4, 4, 4, 5, 5, 5, 5, 5, 5, 5, 5, 5, 5, 5, 5, 5, 5, 5, 5, 6, 6, 6, 6, 6, 6, 6, 6, 6, 6, 6, 6, 6, 6, 6, 6, 6, 6, 6, 6, 6, 6, 6, 6, 6, 6, 6, 6, 6, 6, 6, 6, 7, 7, 7, 7, 7, 7, 7, 7, 7, 7, 7, 7, 7, 7, 7, 7, 7, 7, 7, 7, 7, 7, 7, 7, 7, 7, 7, 7, 7, 7, 7, 7, 7, 7, 7, 7, 7, 7, 7, 7, 7, 7, 7, 7, 7, 7, 7, 7, 7, 7, 7, 7, 7, 7, 7, 7, 7, 7, 7, 7, 7, 7, 7, 7, 8, 8, 8, 8, 8, 8, 8, 8, 8, 8, 8, 8, 8, 8, 8, 8, 8, 8, 8, 8, 8, 8, 8, 8, 8, 8, 8, 8, 8, 8, 8, 8, 8, 8, 8, 8, 8, 8, 8, 8, 8, 8, 8, 8, 8, 8, 8, 8, 8, 8, 8, 8, 8, 8, 8, 8, 8, 8, 8, 8, 8, 8, 8, 8, 8, 8, 8, 8, 8, 8, 8, 8, 8, 8, 8, 8, 8, 8, 8, 8, 8, 8, 8, 8, 8, 8, 8, 8, 8, 8, 8, 8, 8, 8, 8, 8, 8, 8, 8, 8, 8, 8, 8, 8, 8, 8, 8, 8, 8, 8, 8, 8, 8, 8, 8, 8, 8, 8, 8, 8, 8, 8, 8, 8, 8, 8, 8, 8] : List UInt8) (toNat (wrap .u8 (Int.fdiv (Int.fdiv a1_ (2 ^ (min (toNat 32) (IntKind.bits .u64)))) (2 ^ (min (toNat 8) (IntKind.bits .u64)))))) 0) : Nat) : Int)))))
 (.g (inR (wrap .u8 (Int.fdiv a1_ (2 ^ (min (toNat 32) (IntKind.bits .u64))))) (length ([0, 1, 2, 2, 3, 3, 3, 3, 4, 4, 4, 4, 4, 4, 4, 4, 5, 5, 5, 5, 5, 5, 5, 5, 5, 5, 5, 5, 5, 5, 5, 5, 6, 6, 6, 6, 6, 6, 6, 6, 6, 6, 6, 6, 6, 6, 6, 6, 6, 6, 6, 6, 6, 6, 6, 6, 6, 6, 6, 6, 6, 6, 6, 6, 7, 7, 7, 7, 7, 7, 7, 7, 7, 7, 7, 7, 7, 7, 7, 7, 7, 7, 7, 7, 7, 7, 7, 7, 7, 7, 7, 7, 7, 7, 7, 7, 7, 7, 7, 7, 7, 7, 7, 7, 7, 7, 7, 7, 7, 7, 7, 7, 7, 7, 7, 7, 7, 7, 7, 7, 7, 7, 7, 7, 7, 7, 7, 7, 8, 8, 8, 8, 8, 8, 8, 8, 8, 8, 8, 8, 8, 8, 8, 8, 8, 8, 8, 8, 8, 8, 8, 8, 8, 8, 8, 8, 8, 8, 8, 8, 8, 8, 8, 8, 8, 8, 8, 8, 8, 8, 8, 8, 8, 8, 8, 8, 8, 8, 8, 8, 8, 8, 8, 8, 8, 8, 8, 8, 8, 8, 8, 8, 8, 8, 8, 8, 8, 8, 8, 8, 8, 8, 8, 8, 8, 8, 8, 8, 8, 8, 8, 8, 8, 8, 8, 8, 8, 8, 8, 8, 8, 8, 8, 8, 8, 8, 8, 8, 8, 8, 8, 8, 8, 8, 8, 8, 8, 8, 8, 8, 8, 8, 8, 8, 8, 8, 8, 8, 8, 8, 8, 8, 8, 8, 8, 8] : List UInt8))) <|
 .l (wrap .i64 ((32 : Int) + (wrap .i64 ((UInt8.toNat (getD ([0, 1, 2, 2, 3, 3, 3, 3, 4, 4, 4, 4, 4, 4, 4, 4, 5, 5, 5, 5, 5, 5, 5, 5, 5, 5, 5, 5, 5, 5, 5, 5, 6, 6, 6, 6, 6, 6, 6, 6, 6, 6, 6, 6, 6, 6, 6, 6, 6, 6, 6, 6, 6, 6, 6, 6, 6, 6, 6, 6, 6, 6, 6, 6, 7, 7, 7, 7, 7, 7, 7, 7, 7, 7, 7, 7, 7, 7, 7, 7, 7, 7, 7, 7, 7, 7, 7, 7, 7, 7, 7, 7, 7, 7, 7, 7, 7, 7, 7, 7, 7, 7, 7, 7, 7, 7, 7, 7, 7, 7, 7, 7, 7, 7, 7, 7, 7, 7, 7, 7, 7, 7, 7, 7, 7, 7, 7, 7, 8, 8, 8, 8, 8, 8, 8, 8, 8, 8, 8, 8, 8, 8, 8, 8, 8, 8, 8, 8, 8, 8, 8, 8, 8, 8, 8, 8, 8, 8, 8, 8, 8, 8, 8, 8, 8, 8, 8, 8, 8, 8, 8, 8, 8, 8, 8, 8, 8, 8, 8, 8, 8, 8, 8, 8, 8, 8, 8, 8, 8, 8, 8, 8, 8, 8, 8, 8, 8, 8, 8, 8, 8, 8, 8, 8, 8, 8, 8, 8, 8, 8, 8, 8, 8, 8, 8, 8, 8, 8, 8, 8, 8, 8, 8, 8, 8, 8, 8, 8, 8, 8, 8, 8, 8, 8, 8, 8, 8, 8, 8, 8, 8, 8, 8, 8, 8, 8, 8, 8, 8, 8, 8, 8, 8, 8, 8, 8] : List UInt8) (toNat (wrap .u8 (Int.fdiv a1_ (2 ^ (min (toNat 32) (IntKind.bits .u64)))))) 0) : Nat) : Int)))))))
 (.t (decide (65536 ≤ a1_))
 (.g (decide ((0 : Int) ≤ (16 : Int))) <|
 .t (decide ((256 : Int) ≤ (Int.fdiv a1_ (2 ^ (min (toNat 16) (IntKind.bits .u64))))))
 (.g (decide ((0 : Int) ≤ (8 : Int))) <|
 .g (inR (wrap .u8 (Int.fdiv (Int.fdiv a1_ (2 ^ (min (toNat 16) (IntKind.bits .u64)))) (2 ^ (min (toNat 8) (IntKind.bits .u64))))) (length ([0, 1, 2, 2, 3, 3, 3, 3, 4, 4, 4, 4, 4, 4, 4, 4, 5, 5, 5, 5, 5, 5, 5, 5, 5, 5, 5, 5, 5, 5, 5, 5, 6, 6, 6, 6, 6, 6, 6, 6, 6, 6, 6, 6, 6, 6, 6, 6, 6, 6, 6, 6, 6, 6, 6, 6, 6, 6, 6, 6, 6, 6, 6, 6, 7, 7, 7, 7, 7, 7, 7, 7, 7, 7, 7, 7, 7, 7, 7, 7, 7, 7, 7, 7, 7, 7, 7, 7, 7, 7, 7, 7, 7, 7, 7, 7, 7, 7, 7, 7, 7, 7, 7, 7, 7, 7, 7, 7, 7, 7, 7, 7, 7, 7, 7, 7, 7, 7, 7, 7, 7, 7, 7, 7, 7, 7, 7, 7, 8, 8, 8, 8, 8, 8, 8, 8, 8, 8, 8, 8, 8, 8, 8, 8, 8, 8, 8, 8, 8, 8, 8, 8, 8, 8, 8, 8, 8, 8, 8, 8, 8, 8, 8, 8, 8, 8, 8, 8, 8, 8, 8, 8, 8, 8, 8, 8, 8, 8, 8, 8, 8, 8, 8, 8, 8, 8, 8, 8, 8, 8, 8, 8, 8, 8, 8, 8, 8, 8, 8, 8, 8, 8, 8, 8, 8, 8, 8, 8, 8, 8, 8, 8, 8, 8, 8, 8, 8, 8, 8, 8, 8, 8, 8, 8, 8, 8, 8, 8, 8, 8, 8, 8, 8, 8, 8, 8, 8, 8, 8, 8, 8, 8, 8, 8, 8, 8, 8, 8, 8, 8, 8, 8, 8, 8, 8, 8] : List UInt8))) <|
 .l (wrap .i64 ((wrap .i64 ((wrap .i64 ((0 : Int) + 16)) + 8)) + (wrap .i64 ((UInt8.toNat (getD ([0, 1, 2, 2, 3, 3, 3, 3, 4, 4, 4, 4, 4, 4, 4, 4, 5, 5, 5, 5, 5, 5, 5, 5, 5, 5, 5, 5, 5, 5, 5, 5, 6, 6, 6, 6, 6, 6, 6, 6, 6, 6, 6, 6, 6, 6, 6, 6, 6, 6, 6, 6, 6, 6, 6, 6, 6, 6, 6, 6, 6, 6, 6, 6, 7, 7, 7, 7, 7, 7, 7, 7, 7, 7, 7, 7, 7, 7, 7, 7, 7, 7, 7, 7, 7, 7, 7, 7, 7, 7, 7, 7, 7, 7, 7, 7, 7, 7, 7, 7, 7, 7, 7, 7, 7, 7, 7, 7, 7, 7, 7, 7, 7, 7, 7, 7, 7, 7, 7, 7, 7, 7, 7, 7, 7, 7, 7, 7, 8, 8, 8, 8, 8, 8, 8, 8, 8, 8, 8, 8, 8, 8, 8, 8, 8, 8, 8, 8, 8, 8, 8, 8, 8, 8, 8, 8, 8, 8, 8, 8, 8, 8, 8, 8, 8, 8, 8, 8, 8, 8, 8, 8, 8, 8, 8, 8, 8, 8, 8, 8, 8, 8, 8, 8, 8, 8, 8, 8, 8, 8, 8, 8, 8, 8, 8, 8, 8, 8, 8, 8, 8, 8, 8, 8, 8, 8, 8, 8, 8, 8, 8, 8, 8, 8, 8, 8, 8, 8, 8, 8, 8, 8, 8, 8, 8, 8, 8, 8, 8, 8, 8, 8, 8, 8, 8, 8, 8, 8, 8, 8, 8, 8, 8, 8, 8, 8, 8, 8, 8, 8, 8, 8, 8, 8, 8, 8] : List UInt8) (toNat (wrap .u8 (Int.fdiv (Int.fdiv a1_ (2 ^ (min (toNat 16) (IntKind.bits .u64)))) (2 ^ (min (toNat 8) (IntKind.bits .u64)))))) 0) : Nat) : Int)))))
 (.g (inR (wrap .u8 (Int.fdiv a1_ (2 ^ (min (toNat 16) (IntKind.bits .u64))))) (length ([0, 1, 2, 2, 3, 3, 3, 3, 4, 4, 4, 4, 4, 4, 4, 4, 5, 5, 5, 5, 5, 5, 5, 5, 5, 5, 5, 5, 5, 5, 5, 5, 6, 6, 6, 6, 6, 6, 6, 6, 6, 6, 6, 6, 6, 6, 6, 6, 6, 6, 6, 6, 6, 6, 6, 6, 6, 6, 6, 6, 6, 6, 6, 6, 7, 7, 7, 7, 7, 7, 7, 7, 7, 7, 7, 7, 7, 7, 7, 7, 7, 7, 7, 7, 7, 7, 7, 7, 7, 7, 7, 7, 7, 7, 7, 7, 7, 7, 7, 7, 7, 7, 7, 7, 7, 7, 7, 7, 7, 7, 7, 7, 7, 7, 7, 7, 7, 7, 7, 7, 7, 7, 7, 7, 7, 7, 7, 7, 8, 8, 8, 8, 8, 8, 8, 8, 8, 8, 8, 8, 8, 8, 8, 8, 8, 8, 8, 8, 8, 8, 8, 8, 8, 8, 8, 8, 8, 8, 8, 8, 8, 8, 8, 8, 8, 8, 8, 8, 8, 8, 8, 8, 8, 8, 8, 8, 8, 8, 8, 8, 8, 8, 8, 8, 8, 8, 8, 8, 8, 8, 8, 8, 8, 8, 8, 8, 8, 8, 8, 8, 8, 8, 8, 8, 8, 8, 8, 8, 8, 8, 8, 8, 8, 8, 8, 8, 8, 8, 8, 8, 8, 8, 8, 8, 8, 8, 8, 8, 8, 8, 8, 8, 8, 8, 8, 8, 8, 8, 8, 8, 8, 8, 8, 8, 8, 8, 8, 8, 8, 8, 8, 8, 8, 8, 8, 8] : List UInt8))) <|
 .l (wrap .i64 ((wrap .i64 ((0 : Int) + 16)) + (wrap .i64 ((UInt8.toNat (getD ([0, 1, 2, 2, 3, 3, 3, 3, 4, 4, 4, 4, 4, 4, 4, 4, 5, 5, 5, 5, 5, 5, 5, 5, 5, 5, 5, 5, 5, 5, 5, 5, 6, 6, 6, 6, 6, 6, 6, 6, 6, 6, 6, 6, 6, 6, 6, 6, 6, 6, 6, 6, 6, 6, 6, 6, 6, 6, 6, 6, 6, 6, 6, 6, 7, 7, 7, 7, 7, 7, 7, 7, 7, 7, 7, 7, 7, 7, 7, 7, 7, 7, 7, 7, 7, 7, 7, 7, 7, 7, 7, 7, 7, 7, 7, 7, 7, 7, 7, 7, 7, 7, 7, 7, 7, 7, 7, 7, 7, 7, 7, 7, 7, 7, 7, 7, 7, 7, 7, 7, 7, 7, 7, 7, 7, 7, 7, 7, 8, 8, 8, 8, 8, 8, 8, 8, 8, 8, 8, 8, 8, 8, 8, 8, 8, 8, 8, 8, 8, 8, 8, 8, 8, 8, 8, 8, 8, 8, 8, 8, 8, 8, 8, 8, 8, 8, 8, 8, 8, 8, 8, 8, 8, 8, 8, 8, 8, 8, 8, 8, 8, 8, 8, 8, 8, 8, 8, 8, 8, 8, 8, 8, 8, 8, 8, 8, 8, 8, 8, 8, 8, 8, 8, 8, 8, 8, 8, 8, 8, 8, 8, 8, 8, 8, 8, 8, 8, 8, 8, 8, 8, 8, 8, 8, 8, 8, 8, 8, 8, 8, 8, 8, 8, 8, 8, 8, 8, 8, 8, 8, 8, 8, 8, 8, 8, 8, 8, 8, 8, 8, 8, 8, 8, 8, 8, 8] : List UInt8) (toNat (wrap .u8 (Int.fdiv a1_ (2 ^ (min (toNat 16) (IntKind.bits .u64)))))) 0) : Nat) : Int))))))
 (.t (decide (256 ≤ a1_))
 (.g (decide ((0 : Int) ≤ (8 : Int))) <|
 .g (inR (wrap .u8 (Int.fdiv a1_ (2 ^ (min (toNat 8) (IntKind.bits .u64))))) (length ([0, 1, 2, 2, 3, 3, 3, 3, 4, 4, 4, 4, 4, 4, 4, 4, 5, 5, 5, 5, 5, 5, 5, 5, 5, 5, 5, 5, 5, 5, 5, 5, 6, 6, 6, 6, 6, 6, 6, 6, 6, 6, 6, 6, 6, 6, 6, 6, 6, 6, 6, 6, 6, 6, 6, 6, 6, 6, 6, 6, 6, 6, 6, 6, 7, 7, 7, 7, 7, 7, 7, 7, 7, 7, 7, 7, 7, 7, 7, 7, 7, 7, 7, 7, 7, 7, 7, 7, 7, 7, 7, 7, 7, 7, 7, 7, 7, 7, 7, 7, 7, 7, 7, 7, 7, 7, 7, 7, 7, 7, 7, 7, 7, 7, 7, 7, 7, 7, 7, 7, 7, 7, 7, 7, 7, 7, 7, 7, 8, 8, 8, 8, 8, 8, 8, 8, 8, 8, 8, 8, 8, 8, 8, 8, 8, 8, 8, 8, 8, 8, 8, 8, 8, 8, 8, 8, 8, 8, 8, 8, 8, 8, 8, 8, 8, 8, 8, 8, 8, 8, 8, 8, 8, 8, 8, 8, 8, 8, 8, 8, 8, 8, 8, 8, 8, 8, 8, 8, 8, 8, 8, 8, 8, 8, 8, 8, 8, 8, 8, 8, 8, 8, 8, 8, 8, 8, 8, 8, 8, 8, 8, 8, 8, 8, 8, 8, 8, 8, 8, 8, 8, 8, 8, 8, 8, 8, 8, 8, 8, 8, 8, 8, 8, 8, 8, 8, 8, 8, 8, 8, 8, 8, 8, 8, 8, 8, 8, 8, 8, 8, 8, 8, 8, 8, 8, 8] : List UInt8))) <|
 .l (wrap .i64 ((wrap .i64 ((0 : Int) + 8)) + (wrap .i64 ((UInt8.toNat (getD ([0, 1, 2, 2, 3, 3, 3, 3, 4, 4, 4, 4, 4, 4, 4, 4, 5, 5, 5, 5, 5, 5, 5, 5, 5, 5, 5, 5, 5, 5, 5, 5, 6, 6, 6, 6, 6, 6, 6, 6, 6, 6, 6, 6, 6, 6, 6, 6, 6, 6, 6, 6, 6, 6, 6, 6, 6, 6, 6, 6, 6, 6, 6, 6, 7, 7, 7, 7, 7, 7, 7, 7, 7, 7, 7, 7, 7, 7, 7, 7, 7, 7, 7, 7, 7, 7, 7, 7, 7, 7, 7, 7, 7, 7, 7, 7, 7, 7, 7, 7, 7, 7, 7, 7, 7, 7, 7, 7, 7, 7, 7, 7, 7, 7, 7, 7, 7, 7, 7, 7, 7, 7, 7, 7, 7, 7, 7, 7, 8, 8, 8, 8, 8, 8, 8, 8, 8, 8, 8, 8, 8, 8, 8, 8, 8, 8, 8, 8, 8, 8, 8, 8, 8, 8, 8, 8, 8, 8, 8, 8, 8, 8, 8, 8, 8, 8, 8, 8, 8, 8, 8, 8, 8, 8, 8, 8, 8, 8, 8, 8, 8, 8, 8, 8, 8, 8, 8, 8, 8, 8, 8, 8, 8, 8, 8, 8, 8, 8, 8, 8, 8, 8, 8, 8, 8, 8, 8, 8, 8, 8, 8, 8, 8, 8, 8, 8, 8, 8, 8, 8, 8, 8, 8, 8, 8, 8, 8, 8, 8, 8, 8, 8, 8, 8, 8, 8, 8, 8, 8, 8, 8, 8, 8, 8, 8, 8, 8, 8, 8, 8, 8, 8, 8, 8, 8, 8] : List UInt8) (toNat (wrap .u8 (Int.fdiv a1_ (2 ^ (min (toNat 8) (IntKind.bits .u64)))))) 0) : Nat) : Int)))))
 (.g (inR (wrap .u8 a1_) (length ([0, 1, 2, 2, 3, 3, 3, 3, 4, 4, 4, 4, 4, 4, 4, 4, 5, 5, 5, 5, 5, 5, 5, 5, 5, 5, 5, 5, 5, 5, 5, 5, 6, 6, 6, 6, 6, 6, 6, 6, 6, 6, 6, 6, 6, 6, 6, 6, 6, 6, 6, 6, 6, 6, 6, 6, 6, 6, 6, 6, 6, 6, 6, 6, 7, 7, 7, 7, 7, 7, 7, 7, 7, 7, 7, 7, 7, 7, 7, 7, 7, 7, 7, 7, 7, 7, 7, 7, 7, 7, 7, 7, 7, 7, 7, 7, 7, 7, 7, 7, 7, 7, 7, 7, 7, 7, 7, 7, 7, 7, 7, 7, 7, 7, 7, 7, 7, 7, 7, 7, 7, 7, 7, 7, 7, 7, 7, 7, 8, 8, 8, 8, 8, 8, 8, 8, 8, 8, 8, 8, 8, 8, 8, 8, 8, 8, 8, 8, 8, 8, 8, 8, 8, 8, 8, 8, 8, 8, 8, 8, 8, 8, 8, 8, 8, 8, 8, 8, 8, 8, 8, 8, 8, 8, 8, 8, 8, 8, 8, 8, 8, 8, 8, 8, 8, 8, 8, 8, 8, 8, 8, 8, 8, 8, 8, 8, 8, 8, 8, 8, 8, 8, 8, 8, 8, 8, 8, 8, 8, 8, 8, 8, 8, 8, 8, 8, 8, 8, 8, 8, 8, 8, 8, 8, 8, 8, 8, 8, 8, 8, 8, 8, 8, 8, 8, 8, 8, 8, 8, 8, 8, 8, 8, 8, 8, 8, 8, 8, 8, 8, 8, 8, 8, 8, 8, 8] : List UInt8))) <|
 .l (wrap .i64 ((0 : Int) + (wrap .i64 ((UInt8.toNat (getD ([0, 1, 2, 2, 3, 3, 3, 3, 4, 4, 4, 4, 4, 4, 4, 4, 5, 5, 5, 5, 5, 5, 5, 5, 5, 5, 5, 5, 5, 5, 5, 5, 6, 6, 6, 6, 6, 6, 6, 6, 6, 6, 6, 6, 6, 6, 6, 6, 6, 6, 6, 6, 6, 6, 6, 6, 6, 6, 6, 6, 6, 6, 6, 6, 7, 7, 7, 7, 7, 7, 7, 7, 7, 7, 7, 7, 7, 7, 7, 7, 7, 7, 7, 7, 7, 7, 7, 7, 7, 7, 7, 7, 7, 7, 7, 7, 7, 7, 7, 7, 7, 7, 7, 7, 7, 7, 7, 7, 7, 7, 7, 7, 7, 7, 7, 7, 7, 7, 7, 7, 7, 7, 7, 7, 7, 7, 7, 7, 8, 8, 8, 8, 8, 8, 8, 8, 8, 8, 8, 8, 8, 8, 8, 8, 8, 8, 8, 8, 8, 8, 8, 8, 8, 8, 8, 8, 8, 8, 8, 8, 8, 8, 8, 8, 8, 8, 8, 8, 8, 8, 8, 8, 8, 8, 8, 8, 8, 8, 8, 8, 8, 8, 8, 8, 8, 8, 8, 8, 8, 8, 8, 8, 8, 8, 8, 8, 8, 8, 8, 8, 8, 8, 8, 8, 8, 8, 8, 8, 8, 8, 8, 8, 8, 8, 8, 8, 8, 8, 8, 8, 8, 8, 8, 8, 8, 8, 8, 8, 8, 8, 8, 8, 8, 8, 8, 8, 8, 8, 8, 8, 8, 8, 8, 8, 8, 8, 8, 8, 8, 8, 8, 8, 8, 8, 8, 8] : List UInt8) (toNat (wrap .u8 a1_)) 0) : Nat) : Int)))))))
noncomputable def warn (a1_ : Int) : Option (Int) := (warm a1_).ev
noncomputable def wbxx : RetK := yr [.tmp 2] (yj [.dat yi])
noncomputable def wbfa : FD := yd (yj [.dat (.int .u64)]) [] [] Int (fun x => warn x.1.1) (fun r => ([.dat yi r], []))
end Go.Proofs.YtnagpmhaddfgmaaGreat
