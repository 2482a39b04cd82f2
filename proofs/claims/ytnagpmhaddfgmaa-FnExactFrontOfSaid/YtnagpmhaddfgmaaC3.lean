/-
 Descriptions of the functions that the claim reaches: arguments, results, states of loops. No conditions.
-/
import Derived.Test.YtnagpmhaddfgmaaB31
import Derived.Test.YtnagpmhaddfgmaaB44
import Derived.Test.YtnagpmhaddfgmaaProg
namespace Go.Proofs.Ytnagpmhaddfgmaa
open Go.Proofs.Try
open List (length getD set)
open Int (toNat)
open IntKind (wrap)
abbrev yi : Ty := .int .i64
abbrev y1 : Ty := .slice yi
abbrev y2 : Ty := .slice y1
abbrev y3 : Ty := .slice y2
abbrev Y1 : Type := List Int
abbrev Y2 : Type := List Y1
abbrev Y3 : Type := List Y2
abbrev yh (l : List Nat) (s : Sh) : Keep := { acts := [], S := { slots := l, sh := s, obs := [] } }
abbrev ys (l : List Nat) (s : Sh) : SSh := { slots := l, sh := s, obs := [] }
abbrev yd (A : Sh) (I : List (Nat × OSh)) (L : List LP) (R : Type) (F : A.I × OL I → Option R) (e : R → List AV × List (Nat × Ob)) : FD := { A := A, ins := I, lend := L, R := R, F := F, emb := e }
abbrev yr (r : List ResultVar) (s : Sh) : RetK := { acts := [], res := r, sh := s, obs := [], pins := [] }
abbrev yj : List Sh → Sh
  | [] => .nil
  | a :: l => .cons a (yj l)
abbrev Za : List UInt8 := ([0, 1, 2, 2, 3, 3, 3, 3, 4, 4, 4, 4, 4, 4, 4, 4, 5, 5, 5, 5, 5, 5, 5, 5, 5, 5, 5, 5, 5, 5, 5, 5, 6, 6, 6, 6, 6, 6, 6, 6, 6, 6, 6, 6, 6, 6, 6, 6, 6, 6, 6, 6, 6, 6, 6, 6, 6, 6, 6, 6, 6, 6, 6, 6, 7, 7, 7, 7, 7, 7, 7, 7, 7, 7, 7, 7, 7, 7, 7, 7, 7, 7, 7, 7, 7, 7, 7, 7, 7, 7, 7, 7, 7, 7, 7, 7, 7, 7, 7, 7, 7, 7, 7, 7, 7, 7, 7, 7, 7, 7, 7, 7, 7, 7, 7, 7, 7, 7, 7, 7, 7, 7, 7, 7, 7, 7, 7, 7, 8, 8, 8, 8, 8, 8, 8, 8, 8, 8, 8, 8, 8, 8, 8, 8, 8, 8, 8, 8, 8, 8, 8, 8, 8, 8, 8, 8, 8, 8, 8, 8, 8, 8, 8, 8, 8, 8, 8, 8, 8, 8, 8, 8, 8, 8, 8, 8, 8, 8, 8, 8, 8, 8, 8, 8, 8, 8, 8, 8, 8, 8, 8, 8, 8, 8, 8, 8, 8, 8, 8, 8, 8, 8, 8, 8, 8, 8, 8, 8, 8, 8, 8, 8, 8, 8, 8, 8, 8, 8, 8, 8, 8, 8, 8, 8, 8, 8, 8, 8, 8, 8, 8, 8, 8, 8, 8, 8, 8, 8, 8, 8, 8, 8, 8, 8, 8, 8, 8, 8, 8, 8, 8, 8, 8, 8, 8, 8] : List UInt8)
abbrev Zb : Nat := IntKind.bits .u64
abbrev Yd : Type := HL [y1, y1] → Option (Int)
abbrev Ye : Type := Int × Int
abbrev Zf : Sh := yj [.dat yi]
abbrev Zg : Sh := yj [.dat y1, .dat y2]
abbrev Zh : Sh := yj [.arr 64, .dat yi, .clo [y1, y1] yi, .dat yi, .dat yi]
abbrev Yi : Type := Int × (Bool × Y2)
abbrev Zj : Sh := yj [.dat .bool]
abbrev Zk : Nat × OSh := (64, .arr 22 y1)
abbrev Yl : Type := (List Ye) × Y2
abbrev Ym : Type := Int × Y2
abbrev Zn : Sh := yj [.arr 64, .dat yi, .dat yi]
abbrev Yo : Type := Int × (List Ye)
abbrev Zp : Sh := yj [.arr 64, .dat yi]
abbrev Yq : Type := Int × (Int × (Bool × (Bool × Y2)))
abbrev Yr : Type := Y1 × Y2
abbrev Zt : Sh := yj [.dat yi, .dat yi]
abbrev Yv : Type := Int × Y1
abbrev Yw : Type := (Yd) × Ym
abbrev Zx : Sh := yj [.arr 64]
abbrev Yc : Type := List (Ye × Y1)
abbrev Yu : Type := Int × Yc
noncomputable def tabl : List (Nat × TD) := [(3, .sc yi), (4, .sc .bool), (5, .sc (.int .u8)), (9, .sc .str), (22, .sl 3 yi 8), (23, .sl 22 y1 24), (25, .st (.pair y1 y2) [(22, y1), (23, y2)]), (29, .st (.pair y1 y2) [(22, y1), (23, y2)]), (36, .sl 61 (.pair yi yi) 16), (61, .ar 2 3 yi (.pair yi yi)), (73, .sl 75 (.pair (.pair yi yi) y1) 40), (75, .st (.pair (.pair yi yi) y1) [(61, (.pair yi yi)), (22, y1)]), (81, .sc (.int .u64)), (91, .sc (.int .u64)), (136, .sc (.int .u64))]
noncomputable def tt : Nat → TD := fun i => match look tabl i with
 | some d => d
 | none => .no
noncomputable def watv (a1_ : Y1) (a2_ : Int) : Tr (Int) :=
 .t (decide ((wrap .i64 (a2_ - ((length a1_ : Nat) : Int))) < (0 : Int)))
 (.l (-1 : Int))
 (.l (wrap .i64 (a2_ - ((length a1_ : Nat) : Int))))
noncomputable def wabu (a1_ : Y1) (a2_ : Int) : Option (Int) := (watv a1_ a2_).ev
noncomputable def wblm : RetK := yr [.tmp 4] Zf
noncomputable def walr : FD := yd (yj [.dat y1, .dat yi]) [] [] Int (fun x => wabu x.1.1 x.1.2.1) (fun r => ([.dat yi r], []))
noncomputable def wky (k : List Y1) (v : Int × Int) : Tr (Ye ⊕ ((Int) ⊕ (Unit))) :=
 .t (decide (v.2 < ((length k : Nat) : Int)))
 (.g (inR v.2 (length k)) <|
 .c (Int) (wabu (getD k (toNat v.2) ([] : Y1)) v.1) fun r4_ =>
 .t (decide (r4_ < 0))
 (.l (.inr (.inr ())))
 (.l (.inl (r4_, (wrap .i64 (v.2 + 1))))))
 (.l (.inr (.inl v.1)))
noncomputable def wux (k : List Y1) (v : Int × Int) : Option ((Int) ⊕ (Unit)) := iter (fun v => (wky k v).ev) v
noncomputable def wya : LD := ⟨(yh [0, 1, 5] (yj [.dat y2, .dat yi, .dat yi])), [(0, (yh [1] Zf))], (yh [4] Zf), List Y1, Int × (Int), (Int) ⊕ (Unit), fun k v => ((k, (v.1, (v.2, ()))), ()), fun t => t.1.1, fun t => (t.1.2.1, t.1.2.2.1), wky, fun _ r => .s (Int) (Unit) r (fun a => .l (.exit 0 (wbd ((ys [1] Zf)) ((a, ()), ())))) (fun _ => .l (.ret (wbd ((ys [4] Zf)) (((-1 : Int), ()), ()))))⟩
noncomputable def watw (a1_ : List Y1) (a2_ : Int) : Tr (Int) :=
 .t (decide ((wrap .i64 (a2_ - ((length a1_ : Nat) : Int))) < (0 : Int)))
 (.l (-1 : Int))
 (.c ((Int) ⊕ (Unit)) (wux a1_ ((wrap .i64 (a2_ - ((length a1_ : Nat) : Int))), (0 : Int))) fun r7_ =>
 .s (Int) (Unit) r7_
 (fun r8_ => .l r8_)
 (fun _ => .l (-1 : Int)))
noncomputable def wals (a1_ : List Y1) (a2_ : Int) : Option (Int) := (watw a1_ a2_).ev
noncomputable def wbln : RetK := yr [.tmp 4] Zf
noncomputable def watx : FD := yd (yj [.dat y2, .dat yi]) [] [] Int (fun x => wals x.1.1 x.1.2.1) (fun r => ([.dat yi r], []))
noncomputable def waty : Env := wac [(29, walr)]
noncomputable def watz : List (Nat × LD) := [(0, wya)]
noncomputable def waua : Code := (f30.body).getD .skip
noncomputable def waub (a1_ : Y1) (a2_ : List Y1) (a3_ : Int) : Tr (Int) :=
 .c (Int) (wabu a1_ a3_) fun r1_ =>
 .t (decide (r1_ < 0))
 (.l (-1 : Int))
 (.c (Int) (wals a2_ r1_) fun r2_ =>
 .t (decide (r2_ < 0))
 (.l (-1 : Int))
 (.l r2_))
noncomputable def walt (a1_ : Y1) (a2_ : List Y1) (a3_ : Int) : Option (Int) := (waub a1_ a2_ a3_).ev
noncomputable def wblo : RetK := yr [.tmp 4] Zf
noncomputable def wauc : FD := yd (yj [.agg Zg, .dat yi]) [] [] Int (fun x => walt x.1.1.1 x.1.1.2.1 x.1.2.1) (fun r => ([.dat yi r], []))
noncomputable def wkz (k : Y1) (v : Int × Y1) : Tr (Yv ⊕ Y1) :=
 .t (decide (v.1 < ((length k : Nat) : Int)))
 (.g (inR v.1 (length k)) <|
 .g (inR v.1 (length v.2)) <|
 .g (decide ((toNat v.1) < length v.2)) <|
 .l (.inl ((wrap .i64 (v.1 + 1)), (set v.2 (toNat v.1) (getD k (toNat v.1) 0)))))
 (.l (.inr v.2))
noncomputable def wafk (k : Y1) (v : Int × Y1) : Option Y1 := iter (fun v => (wkz k v).ev) v
noncomputable def wyb : LD := ⟨{ acts := [], S := { slots := [0, 3, 4], sh := (yj [.dat y1, .arr 7, .dat yi]), obs := [(7, .arr 3 yi)] } }, [(0, { acts := [], S := { slots := [3], sh := (yj [.arr 7]), obs := [(7, .arr 3 yi)] } })], (yh [] .nil), Y1, Int × Y1, Y1, fun k v => ((k, ((), (v.1, ()))), (v.2, ())), fun t => t.1.1, fun t => (t.1.2.2.1, t.2.1), wkz, fun _ r => .l (.exit 0 (wbd ({ slots := [3], sh := (yj [.arr 7]), obs := [(7, .arr 3 yi)] }) (((), ()), (r, ()))))⟩
noncomputable def waud (a1_ : Y1) : Tr Y1 :=
 .g (decide ((0 : Int) ≤ ((length a1_ : Nat) : Int)) && decide (((length a1_ : Nat) : Int) ≤ ((length a1_ : Nat) : Int)) && decide (((8 : Nat) : Int) * ((length a1_ : Nat) : Int) ≤ 281474976710656)) <|
 .c Y1 (wafk a1_ ((0 : Int), (List.replicate (toNat ((length a1_ : Nat) : Int)) (0 : Int)))) fun r5_ =>
 .l r5_
noncomputable def wafl (a1_ : Y1) : Option Y1 := (waud a1_).ev
noncomputable def wblp : RetK := { acts := [.ren 7 0], res := [.tmp 2], sh := (yj [.arr 0]), obs := [(0, .arr 3 yi)], pins := [] }
noncomputable def walu : FD := yd (yj [.dat y1]) [] [] Y1 (fun x => wafl x.1.1) (fun r => ([.arr 0], [(0, .arr 3 yi r)]))
noncomputable def waue : Env := wac []
noncomputable def wauf : List (Nat × LD) := [(0, wyb)]
noncomputable def waug : Code := (f33.body).getD .skip
noncomputable def wla (k : List Y1) (v : Int × Y2) : Tr (Ym ⊕ Y2) :=
 .t (decide (v.1 < ((length k : Nat) : Int)))
 (.g (inR v.1 (length k)) <|
 .c Y1 (wafl (getD k (toNat v.1) ([] : Y1))) fun r4_ =>
 .g (inR v.1 (length v.2)) <|
 .g (decide ((toNat v.1) < length v.2)) <|
 .l (.inl ((wrap .i64 (v.1 + 1)), (set v.2 (toNat v.1) r4_))))
 (.l (.inr v.2))
noncomputable def wafm (k : List Y1) (v : Int × Y2) : Option Y2 := iter (fun v => (wla k v).ev) v
noncomputable def wyc : LD := ⟨{ acts := [], S := { slots := [0, 3, 4], sh := (yj [.dat y2, .arr 7, .dat yi]), obs := [(7, .rows 22 3 yi)] } }, [(0, { acts := [], S := { slots := [3], sh := (yj [.arr 7]), obs := [(7, .rows 22 3 yi)] } })], (yh [] .nil), List Y1, Int × Y2, List Y1, fun k v => ((k, ((), (v.1, ()))), (v.2, ())), fun t => t.1.1, fun t => (t.1.2.2.1, t.2.1), wla, fun _ r => .l (.exit 0 (wbd ({ slots := [3], sh := (yj [.arr 7]), obs := [(7, .rows 22 3 yi)] }) (((), ()), (r, ()))))⟩
noncomputable def wauh (a1_ : List Y1) : Tr Y2 :=
 .g (decide ((0 : Int) ≤ ((length a1_ : Nat) : Int)) && decide (((length a1_ : Nat) : Int) ≤ ((length a1_ : Nat) : Int)) && decide (((24 : Nat) : Int) * ((length a1_ : Nat) : Int) ≤ 281474976710656)) <|
 .c Y2 (wafm a1_ ((0 : Int), (List.replicate (toNat ((length a1_ : Nat) : Int)) ([] : Y1)))) fun r6_ =>
 .l r6_
noncomputable def walv (a1_ : List Y1) : Option Y2 := (wauh a1_).ev
noncomputable def wblq : RetK := { acts := [.ren 7 0], res := [.tmp 2], sh := (yj [.arr 0]), obs := [(0, .rows 22 3 yi)], pins := [] }
noncomputable def waui : FD := yd (yj [.dat y2]) [] [] (List Y1) (fun x => walv x.1.1) (fun r => ([.arr 0], [(0, .rows 22 3 yi r none)]))
noncomputable def wauj : Nat → Nat → List Nat := fun r i => match look [(1, [(2, [1000000])])] r with
 | some l => (look l i).getD []
 | none => []
noncomputable def wauk : Env := wac [(33, walu)]
noncomputable def waul : List (Nat × LD) := [(0, wyc)]
noncomputable def waum : Code := (f34.body).getD .skip
noncomputable def waun (a1_ : Y1) (a2_ : List Y1) : Tr Yr :=
 .c Y1 (wafl a1_) fun r1_ =>
 .c Y2 (walv a2_) fun r2_ =>
 .l (r1_, r2_)
noncomputable def wuy (a1_ : Y1) (a2_ : List Y1) : Option Yr := (waun a1_ a2_).ev
noncomputable def wblr : RetK := { acts := [.ren 384 4, .ren 640 5], res := [.cell 2 29], sh := (yj [.agg (yj [.arr 4, .arr 5])]), obs := [(4, .arr 3 yi), (5, .rows 22 3 yi)], pins := [] }
noncomputable def wauo : FD := yd (yj [.agg Zg]) [] [] Yr (fun x => wuy x.1.1.1 x.1.1.2.1) (fun r => ([.agg [.arr 4, .arr 5]], [(4, .arr 3 yi r.1), (5, .rows 22 3 yi r.2 none)]))
noncomputable def waup (a1_ : Int) (a2_ : Int) (a3_ : Int) : Tr (Bool) :=
 .t (decide (a2_ ≤ a1_))
 (.l (decide (a1_ ≤ a3_)))
 (.l false)
noncomputable def wabv (a1_ : Int) (a2_ : Int) (a3_ : Int) : Option (Bool) := (waup a1_ a2_ a3_).ev
noncomputable def wbls : RetK := yr [.tmp 6] Zj
noncomputable def wafn : FD := yd (yj [.dat yi, .dat yi, .dat yi]) [] [] Bool (fun x => wabv x.1.1 x.1.2.1 x.1.2.2.1) (fun r => ([.dat .bool r], []))
noncomputable def wlb (k : Y1 × Ye) (v : Int) : Tr ((Int) ⊕ ((Unit) ⊕ (Unit))) :=
 .t (decide (v < ((length k.1 : Nat) : Int)))
 (.g (inR v (length k.1)) <|
 .c (Bool) (wabv (getD k.1 (toNat v) 0) (0 : Int) k.2.2) fun r5_ =>
 .t (!r5_)
 (.l (.inr (.inr ())))
 (.l (.inl (wrap .i64 (v + 1)))))
 (.l (.inr (.inl ())))
noncomputable def wafo (k : Y1 × Ye) (v : Int) : Option ((Unit) ⊕ (Unit)) := iter (fun v => (wlb k v).ev) v
noncomputable def wyd : LD := ⟨(yh [0, 1, 2, 7] (yj [.dat y1, .dat yi, .dat yi, .dat yi])), [(0, (yh [0, 1] (yj [.dat y1, .dat yi])))], (yh [6] Zj), Y1 × Ye, Int, (Unit) ⊕ (Unit), fun k v => ((k.1, (k.2.1, (k.2.2, (v, ())))), ()), fun t => (t.1.1, (t.1.2.1, t.1.2.2.1)), fun t => t.1.2.2.2.1, wlb, fun k r => .s (Unit) (Unit) r (fun _ => .l (.exit 0 (wbd ((ys [0, 1] (yj [.dat y1, .dat yi]))) ((k.1, (k.2.1, ())), ())))) (fun _ => .l (.ret (wbd ((ys [6] Zj)) ((false, ()), ()))))⟩
noncomputable def wauq (a1_ : Y1) (a2_ : Int) (a3_ : Int) : Tr (Bool) :=
 .c ((Unit) ⊕ (Unit)) (wafo (a1_, (a2_, a3_)) (0 : Int)) fun r9_ =>
 .s (Unit) (Unit) r9_
 (fun _ => .l (((length a1_ : Nat) : Int) == a2_))
 (fun _ => .l false)
noncomputable def wafp (a1_ : Y1) (a2_ : Int) (a3_ : Int) : Option (Bool) := (wauq a1_ a2_ a3_).ev
noncomputable def wblt : RetK := yr [.tmp 6] Zj
noncomputable def waur : FD := yd (yj [.dat y1, .dat yi, .dat yi]) [] [] Bool (fun x => wafp x.1.1 x.1.2.1 x.1.2.2.1) (fun r => ([.dat .bool r], []))
noncomputable def waus : Env := wac [(74, wafn)]
noncomputable def waut : List (Nat × LD) := [(0, wyd)]
noncomputable def wauu : Code := (f85.body).getD .skip
noncomputable def wlc (k : Int × Yr) (v : Int) : Tr ((Int) ⊕ ((Unit) ⊕ (Unit))) :=
 .t (decide (v < ((length k.2.2 : Nat) : Int)))
 (.g (inR v (length k.2.2)) <|
 .c (Bool) (wafp (getD k.2.2 (toNat v) ([] : Y1)) k.1 (99 : Int)) fun r5_ =>
 .t (!r5_)
 (.l (.inr (.inr ())))
 (.l (.inl (wrap .i64 (v + 1)))))
 (.l (.inr (.inl ())))
noncomputable def wafq (k : Int × Yr) (v : Int) : Option ((Unit) ⊕ (Unit)) := iter (fun v => (wlc k v).ev) v
noncomputable def wye : LD := ⟨{ acts := [], S := { slots := [1, 3, 4], sh := (yj [.box 1 0, .dat yi, .dat yi]), obs := [(1, .cells Zg)] } }, [(0, { acts := [], S := { slots := [1, 3], sh := (yj [.box 1 0, .dat yi]), obs := [(1, .cells Zg)] } })], (yh [2] Zj), Int × Yr, Int, (Unit) ⊕ (Unit), fun k v => (((), (k.1, (v, ()))), ((k.2.1, (k.2.2, ())), ())), fun t => (t.1.2.1, (t.2.1.1, t.2.1.2.1)), fun t => t.1.2.2.1, wlc, fun k r => .s (Unit) (Unit) r (fun _ => .l (.exit 0 (wbd ({ slots := [1, 3], sh := (yj [.box 1 0, .dat yi]), obs := [(1, .cells Zg)] }) (((), (k.1, ())), ((k.2.1, (k.2.2, ())), ()))))) (fun _ => .l (.ret (wbd ((ys [2] Zj)) ((false, ()), ()))))⟩
noncomputable def wauv (a1_ : Y1) (a2_ : List Y1) : Tr (Bool) :=
 .c ((Unit) ⊕ (Unit)) (wafq (((length a1_ : Nat) : Int), (a1_, a2_)) (0 : Int)) fun r10_ =>
 .s (Unit) (Unit) r10_
 (fun _ => .c (Bool) (wabv ((length a1_ : Nat) : Int) (1 : Int) (7 : Int)) fun r13_ =>
 .t r13_
 (.c (Bool) (wafp a1_ ((length a1_ : Nat) : Int) (99 : Int)) fun r14_ =>
 .t r14_
 (.l (decide (((length a2_ : Nat) : Int) ≤ (7 : Int))))
 (.l false))
 (.l false))
 (fun _ => .l false)
noncomputable def walw (a1_ : Y1) (a2_ : List Y1) : Option (Bool) := (wauv a1_ a2_).ev
noncomputable def wblu : RetK := yr [.tmp 2] Zj
noncomputable def wauw : FD := yd (yj [.agg Zg]) [] [] Bool (fun x => walw x.1.1.1 x.1.1.2.1) (fun r => ([.dat .bool r], []))
noncomputable def waux : Env := wac [(85, waur), (74, wafn)]
noncomputable def wauy : List (Nat × LD) := [(0, wye)]
noncomputable def wauz : Code := (f55.body).getD .skip
noncomputable def wava (a1_ : Int) : Tr (Bool) :=
 .c (Bool) (wabv a1_ (1 : Int) (5 : Int)) fun r1_ =>
 .l r1_
noncomputable def walx (a1_ : Int) : Option (Bool) := (wava a1_).ev
noncomputable def wblv : RetK := yr [.tmp 2] Zj
noncomputable def wavb : FD := yd Zf [] [] Bool (fun x => walx x.1.1) (fun r => ([.dat .bool r], []))
noncomputable def wavc (a1_ : Y1) (a2_ : List Y1) (a3_ : Int) (a4_ : Int) : Tr (Bool) :=
 .c (Bool) (walw a1_ a2_) fun r1_ =>
 .t r1_
 (.c (Bool) (walx a3_) fun r2_ =>
 .t r2_
 (.c (Bool) (walx a4_) fun r3_ =>
 .l r3_)
 (.l false))
 (.l false)
noncomputable def waly (a1_ : Y1) (a2_ : List Y1) (a3_ : Int) (a4_ : Int) : Option (Bool) := (wavc a1_ a2_ a3_ a4_).ev
noncomputable def wblw : RetK := yr [.tmp 6] Zj
noncomputable def wavd : FD := yd (yj [.agg Zg, .dat yi, .dat yi]) [] [] Bool (fun x => waly x.1.1.1 x.1.1.2.1 x.1.2.1 x.1.2.2.1) (fun r => ([.dat .bool r], []))
noncomputable def wpb (k : Int × Int) (v : Int × Y1) : Tr (Yv ⊕ Y1) :=
 .t (decide (v.1 < k.1))
 (.g (decide (0 ≤ v.1)) <|
 .t ((wrap .i64 (BitVec.toNat ((BitVec.ofInt (IntKind.bits .i64) (Int.fdiv k.2 (2 ^ (min (toNat v.1) (IntKind.bits .i64))))) &&& (BitVec.ofInt (IntKind.bits .i64) (1 : Int))))) == (1 : Int))
 (.g (decide ((length v.2 + length ([v.1] : Y1)) * 8 ≤ 140737488355328)) <|
 .l (.inl ((wrap .i64 (v.1 + 1)), (v.2 ++ ([v.1] : Y1)))))
 (.l (.inl ((wrap .i64 (v.1 + 1)), v.2))))
 (.l (.inr v.2))
noncomputable def wuz (k : Int × Int) (v : Int × Y1) : Option Y1 := iter (fun v => (wpb k v).ev) v
noncomputable def wyf : LD := ⟨{ acts := [], S := { slots := [0, 1, 5, 6], sh := (yj [.dat yi, .dat yi, .arr 7, .dat yi]), obs := [(7, .arr 3 yi)] } }, [(0, { acts := [], S := { slots := [5], sh := (yj [.arr 7]), obs := [(7, .arr 3 yi)] } })], (yh [] .nil), Int × (Int), Int × Y1, Y1, fun k v => ((k.1, (k.2, ((), (v.1, ())))), (v.2, ())), fun t => (t.1.1, t.1.2.1), fun t => (t.1.2.2.2.1, t.2.1), wpb, fun _ r => .l (.exit 0 (wbd ({ slots := [5], sh := (yj [.arr 7]), obs := [(7, .arr 3 yi)] }) (((), ()), (r, ()))))⟩
noncomputable def walz (a1_ : Int) (a2_ : Int) : Tr Y1 :=
 .c Y1 (wuz (a1_, a2_) ((0 : Int), ([] : Y1))) fun r6_ =>
 .l r6_
noncomputable def wama (a1_ : Int) (a2_ : Int) : Option Y1 := (walz a1_ a2_).ev
noncomputable def wblx : RetK := { acts := [.ren 7 0], res := [.tmp 4], sh := (yj [.arr 0]), obs := [(0, .arr 3 yi)], pins := [] }
noncomputable def wave : FD := yd Zt [] [] Y1 (fun x => wama x.1.1 x.1.2.1) (fun r => ([.arr 0], [(0, .arr 3 yi r)]))
noncomputable def wavf : Env := wac []
noncomputable def wavg : List (Nat × LD) := [(0, wyf)]
noncomputable def wavh : Code := (f86.body).getD .skip
noncomputable def wpc (k : Y1 × Y1) (v : Int) : Tr ((Int) ⊕ ((Unit) ⊕ (Bool))) :=
 .t (decide (v < ((length k.1 : Nat) : Int)))
 (.g (inR v (length k.1)) <|
 .g (inR v (length k.2)) <|
 .t ((getD k.1 (toNat v) 0) != (getD k.2 (toNat v) 0))
 (.g (inR v (length k.1)) <|
 .g (inR v (length k.2)) <|
 .l (.inr (.inr (decide ((getD k.1 (toNat v) 0) < (getD k.2 (toNat v) 0))))))
 (.l (.inl (wrap .i64 (v + 1)))))
 (.l (.inr (.inl ())))
noncomputable def wva (k : Y1 × Y1) (v : Int) : Option ((Unit) ⊕ (Bool)) := iter (fun v => (wpc k v).ev) v
noncomputable def wyg : LD := ⟨(yh [0, 1, 5] (yj [.dat y1, .dat y1, .dat yi])), [(0, (yh [] .nil))], (yh [4] Zj), Y1 × Y1, Int, (Unit) ⊕ (Bool), fun k v => ((k.1, (k.2, (v, ()))), ()), fun t => (t.1.1, t.1.2.1), fun t => t.1.2.2.1, wpc, fun _ r => .s (Unit) (Bool) r (fun _ => .l (.exit 0 (wbd ((ys [] .nil)) ((), ())))) (fun b => .l (.ret (wbd ((ys [4] Zj)) ((b, ()), ()))))⟩
noncomputable def wamb (a1_ : Y1) (a2_ : Y1) : Tr (Bool) :=
 .t (((length a1_ : Nat) : Int) != ((length a2_ : Nat) : Int))
 (.l (decide (((length a1_ : Nat) : Int) < ((length a2_ : Nat) : Int))))
 (.c ((Unit) ⊕ (Bool)) (wva (a1_, a2_) (0 : Int)) fun r5_ =>
 .s (Unit) (Bool) r5_
 (fun _ => .l false)
 (fun r7_ => .l r7_))
noncomputable def wamc (a1_ : Y1) (a2_ : Y1) : Option (Bool) := (wamb a1_ a2_).ev
noncomputable def wbly : RetK := yr [.tmp 4] Zj
noncomputable def wavi : FD := yd (yj [.dat y1, .dat y1]) [] [] Bool (fun x => wamc x.1.1 x.1.2.1) (fun r => ([.dat .bool r], []))
noncomputable def wavj : Env := wac []
noncomputable def wavk : List (Nat × LD) := [(0, wyg)]
noncomputable def wavl : Code := (f87.body).getD .skip
noncomputable def wpd (k : Int × (Y2 × Yv)) (v : Int) : Tr ((Int) ⊕ (Int)) :=
 .t (decide (0 < v))
 (.g (inR (wrap .i64 (v - 1)) (length k.2.1)) <|
 .c (Bool) (wamc k.2.2.2 (getD k.2.1 (toNat (wrap .i64 (v - 1))) ([] : Y1))) fun r26_ =>
 .t r26_
 (.l (.inl (wrap .i64 (v - 1))))
 (.l (.inr v)))
 (.l (.inr v))
noncomputable def wvb (k : Int × (Y2 × Yv)) (v : Int) : Option (Int) := iter (fun v => (wpd k v).ev) v
noncomputable def wyh : LD := ⟨{ acts := [], S := { slots := [0, 3, 4, 5, 6], sh := (yj [.dat yi, .dat y2, .dat yi, .arr 1024, .dat yi]), obs := [(1024, .arr 3 yi)] } }, [(2, { acts := [], S := { slots := [0, 3, 4, 5, 6], sh := (yj [.dat yi, .dat y2, .dat yi, .arr 1024, .dat yi]), obs := [(1024, .arr 3 yi)] } })], (yh [] .nil), Int × (Y2 × Yv), Int, Int, fun k v => ((k.1, (k.2.1, (k.2.2.1, ((), (v, ()))))), (k.2.2.2, ())), fun t => (t.1.1, (t.1.2.1, (t.1.2.2.1, t.2.1))), fun t => t.1.2.2.2.2.1, wpd, fun k r => .l (.exit 2 (wbd ({ slots := [0, 3, 4, 5, 6], sh := (yj [.dat yi, .dat y2, .dat yi, .arr 1024, .dat yi]), obs := [(1024, .arr 3 yi)] }) ((k.1, (k.2.1, (k.2.2.1, ((), (r, ()))))), (k.2.2.2, ()))))⟩
noncomputable def wpe (k : Int) (v : Y2 × Int) : Tr ((Y2 × Int) ⊕ Y2) :=
 .g (decide (0 ≤ k)) <|
 .t (decide (v.2 < (wrap .i64 ((1 : Int) * 2 ^ (min (toNat k) (IntKind.bits .i64))))))
 (.c Y1 (wama k v.2) fun r20_ =>
 .c (Int) (wvb (k, (v.1, (v.2, r20_))) ((length v.1 : Nat) : Int)) fun r32_ =>
 .g (decide (0 ≤ r32_) && decide (r32_ ≤ ((length v.1 : Nat) : Int))) <|
 .g (decide ((length ([] : List Y1) + length (List.drop 0 (List.take (toNat r32_) v.1))) * 24 ≤ 140737488355328)) <|
 .g (decide ((length (([] : List Y1) ++ (List.drop 0 (List.take (toNat r32_) v.1))) + length ([r20_] : List Y1)) * 24 ≤ 140737488355328)) <|
 .g (decide (0 ≤ r32_) && decide (r32_ ≤ ((length v.1 : Nat) : Int))) <|
 .g (decide ((length ((([] : List Y1) ++ (List.drop 0 (List.take (toNat r32_) v.1))) ++ ([r20_] : List Y1)) + length (List.drop (toNat r32_) (List.take (length v.1) v.1))) * 24 ≤ 140737488355328)) <|
 .l (.inl ((((([] : List Y1) ++ (List.drop 0 (List.take (toNat r32_) v.1))) ++ ([r20_] : List Y1)) ++ (List.drop (toNat r32_) (List.take (length v.1) v.1))), (wrap .i64 (v.2 + 1)))))
 (.l (.inr v.1))
noncomputable def wvc (k : Int) (v : Y2 × Int) : Option Y2 := iter (fun v => (wpe k v).ev) v
noncomputable def wyi : LD := ⟨{ acts := [.fz 7, .fz 32], S := (ys [0, 3, 4] (yj [.dat yi, .dat y2, .dat yi])) }, [(0, (yh [3] (yj [.dat y2])))], (yh [] .nil), Int, Y2 × (Int), List Y1, fun k v => ((k, (v.1, (v.2, ()))), ()), fun t => t.1.1, fun t => (t.1.2.1, t.1.2.2.1), wpe, fun _ r => .l (.exit 0 (wbd ((ys [3] (yj [.dat y2]))) ((r, ()), ())))⟩
noncomputable def wamd (a1_ : Int) : Tr Y2 :=
 .c Y2 (wvc a1_ (([] : List Y1), (1 : Int))) fun r34_ =>
 .l r34_
noncomputable def wafr (a1_ : Int) : Option Y2 := (wamd a1_).ev
noncomputable def wblz : RetK := yr [.tmp 2] (yj [.dat y2])
noncomputable def wavm : FD := yd Zf [] [] (List Y1) (fun x => wafr x.1.1) (fun r => ([.dat y2 r], []))
noncomputable def wame : Nat → Nat → List Nat := fun r i => match look [(8, [(0, [3, 5])])] r with
 | some l => (look l i).getD []
 | none => []
noncomputable def wamf : Env := wac [(86, wave), (87, wavi)]
noncomputable def wamg : List (Nat × LD) := [(2, wyh), (0, wyi)]
noncomputable def wamh : Code := (f57.body).getD .skip
noncomputable def wia (k : Int × (Y1 × Yr)) (v : Int × Int) : Tr (Ye ⊕ (Int)) :=
 .t (decide (v.2 < ((length k.2.1 : Nat) : Int)))
 (.g (inR k.1 (length k.2.2.2)) <|
 .g (inR v.2 (length k.2.1)) <|
 .g (inR (getD k.2.1 (toNat v.2) 0) (length (getD k.2.2.2 (toNat k.1) ([] : Y1)))) <|
 .g (inR k.1 (length k.2.2.2)) <|
 .g (inR v.1 (length (getD k.2.2.2 (toNat k.1) ([] : Y1)))) <|
 .t (decide ((getD (getD k.2.2.2 (toNat k.1) ([] : Y1)) (toNat (getD k.2.1 (toNat v.2) 0)) (0 : Int)) < (getD (getD k.2.2.2 (toNat k.1) ([] : Y1)) (toNat v.1) (0 : Int))))
 (.g (inR v.2 (length k.2.1)) <|
 .l (.inl ((getD k.2.1 (toNat v.2) 0), (wrap .i64 (v.2 + 1)))))
 (.l (.inl (v.1, (wrap .i64 (v.2 + 1))))))
 (.l (.inr v.1))
noncomputable def wpf (k : Int × (Y1 × Yr)) (v : Int × Int) : Option (Int) := iter (fun v => (wia k v).ev) v
noncomputable def wyj : LD := ⟨{ acts := [], S := { slots := [1, 2, 3, 7, 8], sh := (yj [.dat yi, .dat y1, .box 3 0, .dat yi, .dat yi]), obs := [(3, .cells Zg)] } }, [(0, (yh [7] Zf))], (yh [] .nil), Int × (Y1 × Yr), Int × (Int), Int, fun k v => ((k.1, (k.2.1, ((), (v.1, (v.2, ()))))), ((k.2.2.1, (k.2.2.2, ())), ())), fun t => (t.1.1, (t.1.2.1, (t.2.1.1, t.2.1.2.1))), fun t => (t.1.2.2.2.1, t.1.2.2.2.2.1), wia, fun _ r => .l (.exit 0 (wbd ((ys [7] Zf)) ((r, ()), ())))⟩
noncomputable def wavn (a1_ : Y1) (a2_ : List Y1) (a3_ : Int) (a4_ : Y1) : Tr (Int) :=
 .g (inR 0 (length a4_)) <|
 .c (Int) (wpf (a3_, (a4_, (a1_, a2_))) ((getD a4_ (toNat 0) 0), (1 : Int))) fun r8_ =>
 .l r8_
noncomputable def wami (a1_ : Y1) (a2_ : List Y1) (a3_ : Int) (a4_ : Y1) : Option (Int) := (wavn a1_ a2_ a3_ a4_).ev
noncomputable def wbma : RetK := yr [.tmp 6] Zf
noncomputable def wavo : FD := yd (yj [.agg Zg, .dat yi, .dat y1]) [] [] Int (fun x => wami x.1.1.1 x.1.1.2.1 x.1.2.1 x.1.2.2.1) (fun r => ([.dat yi r], []))
noncomputable def wavp : Env := wac []
noncomputable def wavq : List (Nat × LD) := [(0, wyj)]
noncomputable def wavr : Code := (f126.body).getD .skip
noncomputable def wavs (a1_ : Y1) (a2_ : List Y1) (a3_ : Int) (a4_ : Y1) : Tr (Int) :=
 .g (inR a3_ (length a2_)) <|
 .c (Int) (wami a1_ a2_ a3_ a4_) fun r1_ =>
 .g (inR r1_ (length (getD a2_ (toNat a3_) ([] : Y1)))) <|
 .l (getD (getD a2_ (toNat a3_) ([] : Y1)) (toNat r1_) (0 : Int))
noncomputable def wafs (a1_ : Y1) (a2_ : List Y1) (a3_ : Int) (a4_ : Y1) : Option (Int) := (wavs a1_ a2_ a3_ a4_).ev
noncomputable def wbmb : RetK := yr [.tmp 6] Zf
noncomputable def wamj : FD := yd (yj [.agg Zg, .dat yi, .dat y1]) [] [] Int (fun x => wafs x.1.1.1 x.1.1.2.1 x.1.2.1 x.1.2.2.1) (fun r => ([.dat yi r], []))
noncomputable def wle (k : Y1 × Yr) (v : Int × Int) : Tr (Ye ⊕ (Int)) :=
 .t (decide (v.2 < ((length k.2.2 : Nat) : Int)))
 (.c (Int) (wafs k.2.1 k.2.2 v.2 k.1) fun r6_ =>
 .l (.inl ((wrap .i64 (v.1 + r6_)), (wrap .i64 (v.2 + 1)))))
 (.l (.inr v.1))
noncomputable def waft (k : Y1 × Yr) (v : Int × Int) : Option (Int) := iter (fun v => (wle k v).ev) v
noncomputable def wyk : LD := ⟨{ acts := [], S := { slots := [1, 2, 5, 6], sh := (yj [.dat y1, .box 2 0, .dat yi, .dat yi]), obs := [(2, .cells Zg)] } }, [(0, (yh [5] Zf))], (yh [] .nil), Y1 × Yr, Int × (Int), Int, fun k v => ((k.1, ((), (v.1, (v.2, ())))), ((k.2.1, (k.2.2, ())), ())), fun t => (t.1.1, (t.2.1.1, t.2.1.2.1)), fun t => (t.1.2.2.1, t.1.2.2.2.1), wle, fun _ r => .l (.exit 0 (wbd ((ys [5] Zf)) ((r, ()), ())))⟩
noncomputable def wavt (a1_ : Y1) (a2_ : List Y1) (a3_ : Y1) : Tr (Int) :=
 .c (Int) (waft (a3_, (a1_, a2_)) ((0 : Int), (0 : Int))) fun r8_ =>
 .l r8_
noncomputable def wafu (a1_ : Y1) (a2_ : List Y1) (a3_ : Y1) : Option (Int) := (wavt a1_ a2_ a3_).ev
noncomputable def wbmc : RetK := yr [.tmp 4] Zf
noncomputable def wamk : FD := yd (yj [.agg Zg, .dat y1]) [] [] Int (fun x => wafu x.1.1.1 x.1.1.2.1 x.1.2.1) (fun r => ([.dat yi r], []))
noncomputable def wavu : Env := wac [(104, wamj)]
noncomputable def wavv : List (Nat × LD) := [(0, wyk)]
noncomputable def wavw : Code := (f75.body).getD .skip
noncomputable def wlf (k : Y1 × Yr) (v : Int × Int) : Tr (Ye ⊕ (Int)) :=
 .t (decide (v.2 < ((length k.1 : Nat) : Int)))
 (.g (inR v.2 (length k.1)) <|
 .g (inR (getD k.1 (toNat v.2) 0) (length k.2.1)) <|
 .l (.inl ((wrap .i64 (v.1 + (getD k.2.1 (toNat (getD k.1 (toNat v.2) 0)) (0 : Int)))), (wrap .i64 (v.2 + 1)))))
 (.l (.inr v.1))
noncomputable def wafv (k : Y1 × Yr) (v : Int × Int) : Option (Int) := iter (fun v => (wlf k v).ev) v
noncomputable def wyl : LD := ⟨{ acts := [], S := { slots := [1, 2, 5, 6], sh := (yj [.dat y1, .box 2 0, .dat yi, .dat yi]), obs := [(2, .cells Zg)] } }, [(0, (yh [5] Zf))], (yh [] .nil), Y1 × Yr, Int × (Int), Int, fun k v => ((k.1, ((), (v.1, (v.2, ())))), ((k.2.1, (k.2.2, ())), ())), fun t => (t.1.1, (t.2.1.1, t.2.1.2.1)), fun t => (t.1.2.2.1, t.1.2.2.2.1), wlf, fun _ r => .l (.exit 0 (wbd ((ys [5] Zf)) ((r, ()), ())))⟩
noncomputable def wavx (a1_ : Y1) (a2_ : List Y1) (a3_ : Y1) : Tr (Int) :=
 .c (Int) (wafv (a3_, (a1_, a2_)) ((0 : Int), (0 : Int))) fun r7_ =>
 .l r7_
noncomputable def wafw (a1_ : Y1) (a2_ : List Y1) (a3_ : Y1) : Option (Int) := (wavx a1_ a2_ a3_).ev
noncomputable def wbmd : RetK := yr [.tmp 4] Zf
noncomputable def waml : FD := yd (yj [.agg Zg, .dat y1]) [] [] Int (fun x => wafw x.1.1.1 x.1.1.2.1 x.1.2.1) (fun r => ([.dat yi r], []))
noncomputable def wavy : Env := wac []
noncomputable def wavz : List (Nat × LD) := [(0, wyl)]
noncomputable def wawa : Code := (f76.body).getD .skip
noncomputable def wawb (a1_ : Y1) (a2_ : List Y1) (a3_ : Y1) : Tr (Int) :=
 .c (Int) (wafu a1_ a2_ a3_) fun r1_ =>
 .c (Int) (wafw a1_ a2_ a3_) fun r2_ =>
 .l (wrap .i64 (r1_ + r2_))
noncomputable def wamm (a1_ : Y1) (a2_ : List Y1) (a3_ : Y1) : Option (Int) := (wawb a1_ a2_ a3_).ev
noncomputable def wbme : RetK := yr [.tmp 4] Zf
noncomputable def wawc : FD := yd (yj [.agg Zg, .dat y1]) [] [] Int (fun x => wamm x.1.1.1 x.1.1.2.1 x.1.2.1) (fun r => ([.dat yi r], []))
noncomputable def wawd (a1_ : Int) (a2_ : Int) : Tr (Int) :=
 .t (decide (a2_ < a1_))
 (.l a1_)
 (.l a2_)
noncomputable def wamn (a1_ : Int) (a2_ : Int) : Option (Int) := (wawd a1_ a2_).ev
noncomputable def wbmf : RetK := yr [.tmp 4] Zf
noncomputable def wawe : FD := yd Zt [] [] Int (fun x => wamn x.1.1 x.1.2.1) (fun r => ([.dat yi r], []))
noncomputable def wlg (k : Y1 × Yr) (v : Int × Int) : Tr (Ye ⊕ (Int)) :=
 .t (decide (v.2 < ((length k.2.2 : Nat) : Int)))
 (.c (Int) (wafs k.2.1 k.2.2 v.2 k.1) fun r6_ =>
 .c (Int) (wamn v.1 r6_) fun r7_ =>
 .l (.inl (r7_, (wrap .i64 (v.2 + 1)))))
 (.l (.inr v.1))
noncomputable def wafx (k : Y1 × Yr) (v : Int × Int) : Option (Int) := iter (fun v => (wlg k v).ev) v
noncomputable def wym : LD := ⟨{ acts := [], S := { slots := [1, 2, 5, 6], sh := (yj [.dat y1, .box 2 0, .dat yi, .dat yi]), obs := [(2, .cells Zg)] } }, [(0, (yh [5] Zf))], (yh [] .nil), Y1 × Yr, Int × (Int), Int, fun k v => ((k.1, ((), (v.1, (v.2, ())))), ((k.2.1, (k.2.2, ())), ())), fun t => (t.1.1, (t.2.1.1, t.2.1.2.1)), fun t => (t.1.2.2.1, t.1.2.2.2.1), wlg, fun _ r => .l (.exit 0 (wbd ((ys [5] Zf)) ((r, ()), ())))⟩
noncomputable def wawf (a1_ : Y1) (a2_ : List Y1) (a3_ : Y1) : Tr (Int) :=
 .c (Int) (wafx (a3_, (a1_, a2_)) ((0 : Int), (0 : Int))) fun r9_ =>
 .l r9_
noncomputable def wamo (a1_ : Y1) (a2_ : List Y1) (a3_ : Y1) : Option (Int) := (wawf a1_ a2_ a3_).ev
noncomputable def wbmg : RetK := yr [.tmp 4] Zf
noncomputable def wawg : FD := yd (yj [.agg Zg, .dat y1]) [] [] Int (fun x => wamo x.1.1.1 x.1.1.2.1 x.1.2.1) (fun r => ([.dat yi r], []))
noncomputable def wawh : Env := wac [(104, wamj), (109, wawe)]
noncomputable def wawi : List (Nat × LD) := [(0, wym)]
noncomputable def wawj : Code := (f89.body).getD .skip
noncomputable def wawk (a1_ : Y1) (a2_ : List Y1) (a3_ : Y1) (a4_ : Int) : Tr (Int) :=
 .t (a4_ == 1)
 (.c (Int) (wafu a1_ a2_ a3_) fun r1_ =>
 .l r1_)
 (.t (a4_ == 2)
 (.c (Int) (wafw a1_ a2_ a3_) fun r2_ =>
 .l r2_)
 (.t (a4_ == 3)
 (.c (Int) (wamm a1_ a2_ a3_) fun r3_ =>
 .l r3_)
 (.t (a4_ == 4)
 (.c (Int) (wamo a1_ a2_ a3_) fun r4_ =>
 .l r4_)
 (.l ((length a3_ : Nat) : Int)))))
noncomputable def wafy (a1_ : Y1) (a2_ : List Y1) (a3_ : Y1) (a4_ : Int) : Option (Int) := (wawk a1_ a2_ a3_ a4_).ev
noncomputable def wbmh : RetK := yr [.tmp 6] Zf
noncomputable def wawl : FD := yd (yj [.agg Zg, .dat y1, .dat yi]) [] [] Int (fun x => wafy x.1.1.1 x.1.1.2.1 x.1.2.1 x.1.2.2.1) (fun r => ([.dat yi r], []))
noncomputable def wawm (a1_ : Int) (a2_ : Int) (a3_ : Int) (a4_ : Int) : Tr (Bool) :=
 .g (inR 0 2) <|
 .g (inR 0 2) <|
 .t (decide (a1_ ≤ a3_))
 (.g (inR 1 2) <|
 .g (inR 1 2) <|
 .t (decide (a2_ ≤ a4_))
 (.l (!((a1_ == a3_) && ((a2_ == a4_) && true))))
 (.l false))
 (.l false)
noncomputable def wabw (a1_ : Int) (a2_ : Int) (a3_ : Int) (a4_ : Int) : Option (Bool) := (wawm a1_ a2_ a3_ a4_).ev
noncomputable def wbmi : RetK := yr [.tmp 4] Zj
noncomputable def wawn : FD := yd (yj [.agg Zt, .agg Zt]) [] [] Bool (fun x => wabw x.1.1.1 x.1.1.2.1 x.1.2.1.1 x.1.2.1.2.1) (fun r => ([.dat .bool r], []))
noncomputable def wfb (k : (List Ye) × (Y2 × (Y1 × (Bool × (Int × (Int × Yl)))))) (v : Int) : Tr ((Int) ⊕ ((Unit) ⊕ (Unit))) :=
 .t (decide (v < ((length k.1 : Nat) : Int)))
 (.g (inR v (length k.1)) <|
 .t (((getD k.1 (toNat v) ((0 : Int), (0 : Int))).1 == k.2.2.2.2.1) && (((getD k.1 (toNat v) ((0 : Int), (0 : Int))).2 == k.2.2.2.2.2.1) && true))
 (.l (.inr (.inr ())))
 (.g (inR v (length k.1)) <|
 .c (Bool) (wabw ((getD k.1 (toNat v) ((0 : Int), (0 : Int))).1) ((getD k.1 (toNat v) ((0 : Int), (0 : Int))).2) k.2.2.2.2.1 k.2.2.2.2.2.1) fun r10_ =>
 .t r10_
 (.l (.inr (.inr ())))
 (.l (.inl (wrap .i64 (v + 1))))))
 (.l (.inr (.inl ())))
noncomputable def wafz (k : (List Ye) × (Y2 × (Y1 × (Bool × (Int × (Int × Yl)))))) (v : Int) : Option ((Unit) ⊕ (Unit)) := iter (fun v => (wfb k v).ev) v
noncomputable def wyn : LD := ⟨{ acts := [], S := { slots := [0, 1, 3, 6, 10, 11, 12, 13], sh := (yj [.dat (.slice (.pair yi yi)), .dat y2, .dat y1, .box 6 0, .arr 15, .arr 16, .dat .bool, .dat yi]), obs := [(6, .cells Zt), (15, .arr 61 (.pair yi yi)), (16, .arr 22 y1)] } }, [(0, { acts := [], S := { slots := [0, 1, 3, 6, 10, 11, 12], sh := (yj [.dat (.slice (.pair yi yi)), .dat y2, .dat y1, .box 6 0, .arr 15, .arr 16, .dat .bool]), obs := [(6, .cells Zt), (15, .arr 61 (.pair yi yi)), (16, .arr 22 y1)] } })], (yh [8, 9] (yj [.dat (.slice (.pair yi yi)), .dat y2])), (List Ye) × (Y2 × (Y1 × (Bool × (Int × (Int × Yl))))), Int, (Unit) ⊕ (Unit), fun k v => ((k.1, (k.2.1, (k.2.2.1, ((), ((), ((), (k.2.2.2.1, (v, ())))))))), ((k.2.2.2.2.1, (k.2.2.2.2.2.1, ())), (k.2.2.2.2.2.2.1, (k.2.2.2.2.2.2.2, ())))), fun t => (t.1.1, (t.1.2.1, (t.1.2.2.1, (t.1.2.2.2.2.2.2.1, (t.2.1.1, (t.2.1.2.1, (t.2.2.1, t.2.2.2.1))))))), fun t => t.1.2.2.2.2.2.2.2.1, wfb, fun k r => .s (Unit) (Unit) r (fun _ => .l (.exit 0 (wbd ({ slots := [0, 1, 3, 6, 10, 11, 12], sh := (yj [.dat (.slice (.pair yi yi)), .dat y2, .dat y1, .box 6 0, .arr 15, .arr 16, .dat .bool]), obs := [(6, .cells Zt), (15, .arr 61 (.pair yi yi)), (16, .arr 22 y1)] }) ((k.1, (k.2.1, (k.2.2.1, ((), ((), ((), (k.2.2.2.1, ()))))))), ((k.2.2.2.2.1, (k.2.2.2.2.2.1, ())), (k.2.2.2.2.2.2.1, (k.2.2.2.2.2.2.2, ()))))))) (fun _ => .l (.ret (wbd ((ys [8, 9] (yj [.dat (.slice (.pair yi yi)), .dat y2]))) ((k.1, (k.2.1, ())), ()))))⟩
noncomputable def wdo (k : (List Ye) × (Y2 × (Y1 × Ye))) (v : Bool × (Int × Yl)) : Tr ((Bool × (Int × Yl)) ⊕ (Bool × Yl)) :=
 .t (decide (v.2.1 < ((length k.1 : Nat) : Int)))
 (.g (inR v.2.1 (length k.1)) <|
 .c (Bool) (wabw k.2.2.2.1 k.2.2.2.2 ((getD k.1 (toNat v.2.1) ((0 : Int), (0 : Int))).1) ((getD k.1 (toNat v.2.1) ((0 : Int), (0 : Int))).2)) fun r33_ =>
 .t r33_
 (.l (.inl (v.1, ((wrap .i64 (v.2.1 + 1)), (v.2.2.1, v.2.2.2)))))
 (.t (!v.1)
 (.g (inR v.2.1 (length k.1)) <|
 .g (inR 0 2) <|
 .g (inR 0 2) <|
 .t (decide (k.2.2.2.1 < (getD k.1 (toNat v.2.1) ((0 : Int), (0 : Int))).1))
 (.g (decide ((length v.2.2.1 + length ([(k.2.2.2.1, k.2.2.2.2)] : List Ye)) * 16 ≤ 140737488355328)) <|
 .g (decide ((length v.2.2.2 + length ([k.2.2.1] : List Y1)) * 24 ≤ 140737488355328)) <|
 .g (inR v.2.1 (length k.1)) <|
 .g (decide ((length (v.2.2.1 ++ ([(k.2.2.2.1, k.2.2.2.2)] : List Ye)) + length ([(getD k.1 (toNat v.2.1) ((0 : Int), (0 : Int)))] : List Ye)) * 16 ≤ 140737488355328)) <|
 .g (inR v.2.1 (length k.2.1)) <|
 .g (decide ((length (v.2.2.2 ++ ([k.2.2.1] : List Y1)) + length ([(getD k.2.1 (toNat v.2.1) ([] : Y1))] : List Y1)) * 24 ≤ 140737488355328)) <|
 .l (.inl (true, ((wrap .i64 (v.2.1 + 1)), (((v.2.2.1 ++ ([(k.2.2.2.1, k.2.2.2.2)] : List Ye)) ++ ([(getD k.1 (toNat v.2.1) ((0 : Int), (0 : Int)))] : List Ye)), ((v.2.2.2 ++ ([k.2.2.1] : List Y1)) ++ ([(getD k.2.1 (toNat v.2.1) ([] : Y1))] : List Y1)))))))
 (.g (inR v.2.1 (length k.1)) <|
 .g (decide ((length v.2.2.1 + length ([(getD k.1 (toNat v.2.1) ((0 : Int), (0 : Int)))] : List Ye)) * 16 ≤ 140737488355328)) <|
 .g (inR v.2.1 (length k.2.1)) <|
 .g (decide ((length v.2.2.2 + length ([(getD k.2.1 (toNat v.2.1) ([] : Y1))] : List Y1)) * 24 ≤ 140737488355328)) <|
 .l (.inl (v.1, ((wrap .i64 (v.2.1 + 1)), ((v.2.2.1 ++ ([(getD k.1 (toNat v.2.1) ((0 : Int), (0 : Int)))] : List Ye)), (v.2.2.2 ++ ([(getD k.2.1 (toNat v.2.1) ([] : Y1))] : List Y1))))))))
 (.g (inR v.2.1 (length k.1)) <|
 .g (decide ((length v.2.2.1 + length ([(getD k.1 (toNat v.2.1) ((0 : Int), (0 : Int)))] : List Ye)) * 16 ≤ 140737488355328)) <|
 .g (inR v.2.1 (length k.2.1)) <|
 .g (decide ((length v.2.2.2 + length ([(getD k.2.1 (toNat v.2.1) ([] : Y1))] : List Y1)) * 24 ≤ 140737488355328)) <|
 .l (.inl (v.1, ((wrap .i64 (v.2.1 + 1)), ((v.2.2.1 ++ ([(getD k.1 (toNat v.2.1) ((0 : Int), (0 : Int)))] : List Ye)), (v.2.2.2 ++ ([(getD k.2.1 (toNat v.2.1) ([] : Y1))] : List Y1)))))))))
 (.l (.inr (v.1, (v.2.2.1, v.2.2.2))))
noncomputable def wlh (k : (List Ye) × (Y2 × (Y1 × Ye))) (v : Bool × (Int × Yl)) : Option (Bool × Yl) := iter (fun v => (wdo k v).ev) v
noncomputable def wyo : LD := ⟨{ acts := [], S := { slots := [0, 1, 3, 6, 10, 11, 12, 14], sh := (yj [.dat (.slice (.pair yi yi)), .dat y2, .dat y1, .box 6 0, .arr 15, .arr 16, .dat .bool, .dat yi]), obs := [(6, .cells Zt), (15, .arr 61 (.pair yi yi)), (16, .arr 22 y1)] } }, [(2, { acts := [], S := { slots := [3, 6, 10, 11, 12], sh := (yj [.dat y1, .box 6 0, .arr 15, .arr 16, .dat .bool]), obs := [(6, .cells Zt), (15, .arr 61 (.pair yi yi)), (16, .arr 22 y1)] } })], (yh [] .nil), (List Ye) × (Y2 × (Y1 × Ye)), Bool × (Int × Yl), Bool × Yl, fun k v => ((k.1, (k.2.1, (k.2.2.1, ((), ((), ((), (v.1, (v.2.1, ())))))))), ((k.2.2.2.1, (k.2.2.2.2, ())), (v.2.2.1, (v.2.2.2, ())))), fun t => (t.1.1, (t.1.2.1, (t.1.2.2.1, (t.2.1.1, t.2.1.2.1)))), fun t => (t.1.2.2.2.2.2.2.1, (t.1.2.2.2.2.2.2.2.1, (t.2.2.1, t.2.2.2.1))), wdo, fun k r => .l (.exit 2 (wbd ({ slots := [3, 6, 10, 11, 12], sh := (yj [.dat y1, .box 6 0, .arr 15, .arr 16, .dat .bool]), obs := [(6, .cells Zt), (15, .arr 61 (.pair yi yi)), (16, .arr 22 y1)] }) ((k.2.2.1, ((), ((), ((), (r.1, ()))))), ((k.2.2.2.1, (k.2.2.2.2, ())), (r.2.1, (r.2.2, ()))))))⟩
noncomputable def wawo (a1_ : List Ye) (a2_ : List Y1) (a3_ : Int) (a4_ : Int) (a5_ : Y1) : Tr Yl :=
 .c ((Unit) ⊕ (Unit)) (wafz (a1_, (a2_, (a5_, (false, (a3_, (a4_, (([] : List Ye), ([] : List Y1)))))))) (0 : Int)) fun r21_ =>
 .s (Unit) (Unit) r21_
 (fun _ => .c (Bool × Yl) (wlh (a1_, (a2_, (a5_, (a3_, a4_)))) (false, ((0 : Int), (([] : List Ye), ([] : List Y1))))) fun r40_ =>
 .t (!r40_.1)
 (.g (decide ((length r40_.2.1 + length ([(a3_, a4_)] : List Ye)) * 16 ≤ 140737488355328)) <|
 .g (decide ((length r40_.2.2 + length ([a5_] : List Y1)) * 24 ≤ 140737488355328)) <|
 .l ((r40_.2.1 ++ ([(a3_, a4_)] : List Ye)), (r40_.2.2 ++ ([a5_] : List Y1))))
 (.l (r40_.2.1, r40_.2.2)))
 (fun _ => .l (a1_, a2_))
noncomputable def wamp (a1_ : List Ye) (a2_ : List Y1) (a3_ : Int) (a4_ : Int) (a5_ : Y1) : Option Yl := (wawo a1_ a2_ a3_ a4_ a5_).ev
noncomputable def wbmj : RetK := { acts := [.fz 15, .fz 16], res := [.tmp 8, .tmp 9], sh := (yj [.dat (.slice (.pair yi yi)), .dat y2]), obs := [], pins := [] }
noncomputable def wawp : FD := yd (yj [.dat (.slice (.pair yi yi)), .dat y2, .agg Zt, .dat y1]) [] [] Yl (fun x => wamp x.1.1 x.1.2.1 x.1.2.2.1.1 x.1.2.2.1.2.1 x.1.2.2.2.1) (fun r => ([.dat (.slice (.pair yi yi)) r.1, .dat y2 r.2], []))
noncomputable def wamq : Env := wac [(88, wawn)]
noncomputable def wamr : List (Nat × LD) := [(0, wyn), (2, wyo)]
noncomputable def wams : Code := (f58.body).getD .skip
noncomputable def wli (k : Int × (Int × (Y2 × Yr))) (v : (List Ye) × (Y2 × Int)) : Tr (((List Ye) × (Y2 × Int)) ⊕ Yl) :=
 .t (decide (v.2.2 < ((length k.2.2.1 : Nat) : Int)))
 (.g (inR v.2.2 (length k.2.2.1)) <|
 .c (Int) (wafy k.2.2.2.1 k.2.2.2.2 (getD k.2.2.1 (toNat v.2.2) ([] : Y1)) k.1) fun r32_ =>
 .g (inR v.2.2 (length k.2.2.1)) <|
 .c (Int) (wafy k.2.2.2.1 k.2.2.2.2 (getD k.2.2.1 (toNat v.2.2) ([] : Y1)) k.2.1) fun r33_ =>
 .g (inR v.2.2 (length k.2.2.1)) <|
 .c Yl (wamp v.1 v.2.1 r32_ r33_ (getD k.2.2.1 (toNat v.2.2) ([] : Y1))) fun r34_ =>
 .l (.inl (r34_.1, (r34_.2, (wrap .i64 (v.2.2 + 1))))))
 (.l (.inr (v.1, v.2.1)))
noncomputable def waga (k : Int × (Int × (Y2 × Yr))) (v : (List Ye) × (Y2 × Int)) : Option Yl := iter (fun v => (wli k v).ev) v
noncomputable def wyp : LD := ⟨{ acts := [.fz 12, .fz 13], S := { slots := [1, 2, 3, 8, 9, 10, 11], sh := (yj [.dat yi, .dat yi, .box 3 0, .dat (.slice (.pair yi yi)), .dat y2, .dat y2, .dat yi]), obs := [(3, .cells Zg)] } }, [(0, (yh [8, 9] (yj [.dat (.slice (.pair yi yi)), .dat y2])))], (yh [] .nil), Int × (Int × (Y2 × Yr)), (List Ye) × (Y2 × Int), (List Ye) × Y2, fun k v => ((k.1, (k.2.1, ((), (v.1, (v.2.1, (k.2.2.1, (v.2.2, ()))))))), ((k.2.2.2.1, (k.2.2.2.2, ())), ())), fun t => (t.1.1, (t.1.2.1, (t.1.2.2.2.2.2.1, (t.2.1.1, t.2.1.2.1)))), fun t => (t.1.2.2.2.1, (t.1.2.2.2.2.1, t.1.2.2.2.2.2.2.1)), wli, fun _ r => .l (.exit 0 (wbd ((ys [8, 9] (yj [.dat (.slice (.pair yi yi)), .dat y2]))) ((r.1, (r.2, ())), ())))⟩
noncomputable def wawq (a1_ : Y1) (a2_ : List Y1) (a3_ : Int) (a4_ : Int) : Tr Yl :=
 .c Y2 (wafr ((length a1_ : Nat) : Int)) fun r1_ =>
 .c Yl (waga (a3_, (a4_, (r1_, (a1_, a2_)))) (([] : List Ye), (([] : List Y1), (0 : Int)))) fun r37_ =>
 .l (r37_.1, r37_.2)
noncomputable def wamt (a1_ : Y1) (a2_ : List Y1) (a3_ : Int) (a4_ : Int) : Option Yl := (wawq a1_ a2_ a3_ a4_).ev
noncomputable def wbmk : RetK := yr [.tmp 6, .tmp 7] (yj [.dat (.slice (.pair yi yi)), .dat y2])
noncomputable def wawr : FD := yd (yj [.agg Zg, .dat yi, .dat yi]) [] [] Yl (fun x => wamt x.1.1.1 x.1.1.2.1 x.1.2.1 x.1.2.2.1) (fun r => ([.dat (.slice (.pair yi yi)) r.1, .dat y2 r.2], []))
noncomputable def waws : Nat → Nat → List Nat := fun r i => match look [(1, [(1, [1000000])]), (5, [(0, [8, 9])])] r with
 | some l => (look l i).getD []
 | none => []
noncomputable def wawt : Env := wac [(57, wavm), (59, wawl), (58, wawp)]
noncomputable def wawu : List (Nat × LD) := [(0, wyp)]
noncomputable def wawv : Code := (f32.body).getD .skip
noncomputable def waww (a1_ : Y1) (a2_ : List Y1) (a3_ : Int) (a4_ : Int) : Tr ((List Ye) × (Bool)) :=
 .c (Bool) (waly a1_ a2_ a3_ a4_) fun r1_ =>
 .t (!r1_)
 (.l (([] : List Ye), false))
 (.c Yl (wamt a1_ a2_ a3_ a4_) fun r2_ =>
 .l (r2_.1, true))
noncomputable def wamu (a1_ : Y1) (a2_ : List Y1) (a3_ : Int) (a4_ : Int) : Option ((List Ye) × (Bool)) := (waww a1_ a2_ a3_ a4_).ev
noncomputable def wbml : RetK := { acts := [.fz 15], res := [.tmp 6, .tmp 7], sh := (yj [.dat (.slice (.pair yi yi)), .dat .bool]), obs := [], pins := [] }
noncomputable def wawx : FD := yd (yj [.agg Zg, .dat yi, .dat yi]) [] [] ((List Ye) × (Bool)) (fun x => wamu x.1.1.1 x.1.1.2.1 x.1.2.1 x.1.2.2.1) (fun r => ([.dat (.slice (.pair yi yi)) r.1, .dat .bool r.2], []))
noncomputable def T_zu (a1_ : Int) (a2_ : Int) (a3_ : Int) : Tr (Bool) :=
 .t (decide (a2_ ≤ a1_))
 (.l (decide (a1_ ≤ a3_)))
 (.l false)
noncomputable def F_zu (a1_ : Int) (a2_ : Int) (a3_ : Int) : Option (Bool) := (T_zu a1_ a2_ a3_).ev
noncomputable def K_zu : RetK := yr [.tmp 6] Zj
noncomputable def D_zu : FD := yd (yj [.dat yi, .dat yi, .dat yi]) [] [] Bool (fun x => F_zu x.1.1 x.1.2.1 x.1.2.2.1) (fun r => ([.dat .bool r], []))
noncomputable def wlj (k : Y1 × (((HL [yi] → Option (Bool))) × Int)) (v : Int) : Tr ((Int) ⊕ ((Unit) ⊕ (Int))) :=
 .t (decide (v < k.2.2))
 (.g (inR v (length k.1)) <|
 .c (Bool) (k.2.1 ((getD k.1 (toNat v) 0), ())) fun r5_ =>
 .t r5_
 (.l (.inr (.inr v)))
 (.l (.inl (wrap .i64 (v + 1)))))
 (.l (.inr (.inl ())))
noncomputable def wagb (k : Y1 × (((HL [yi] → Option (Bool))) × Int)) (v : Int) : Option ((Unit) ⊕ (Int)) := iter (fun v => (wlj k v).ev) v
noncomputable def wyq : LD := ⟨(yh [0, 1, 7, 8] (yj [.dat y1, .clo [yi] .bool, .dat yi, .dat yi])), [(0, (yh [] .nil))], (yh [4] Zf), Y1 × (((HL [yi] → Option (Bool))) × Int), Int, (Unit) ⊕ (Int), fun k v => ((k.1, (k.2.1, (k.2.2, (v, ())))), ()), fun t => (t.1.1, (t.1.2.1, t.1.2.2.1)), fun t => t.1.2.2.2.1, wlj, fun _ r => .s (Unit) (Int) r (fun _ => .l (.exit 0 (wbd ((ys [] .nil)) ((), ())))) (fun b => .l (.ret (wbd ((ys [4] Zf)) ((b, ()), ()))))⟩
noncomputable def wawy (a1_ : Y1) (a2_ : (HL [yi] → Option (Bool))) : Tr (Int) :=
 .c ((Unit) ⊕ (Int)) (wagb (a1_, (a2_, ((length a1_ : Nat) : Int))) (0 : Int)) fun r7_ =>
 .s (Unit) (Int) r7_
 (fun _ => .l (-1 : Int))
 (fun r9_ => .l r9_)
noncomputable def wamv (a1_ : Y1) (a2_ : (HL [yi] → Option (Bool))) : Option (Int) := (wawy a1_ a2_).ev
noncomputable def wbmn : RetK := yr [.tmp 4] Zf
noncomputable def wawz : FD := yd (yj [.dat y1, .clo [yi] .bool]) [] [] Int (fun x => wamv x.1.1 x.1.2.1) (fun r => ([.dat yi r], []))
noncomputable def waxa : Env := wac []
noncomputable def waxb : List (Nat × LD) := [(0, wyq)]
noncomputable def waxc : Code := (f127.body).getD .skip
noncomputable def waxd (a1_ : Y1) (a2_ : (HL [yi] → Option (Bool))) : Tr (Bool) :=
 .c (Int) (wamv a1_ a2_) fun r1_ =>
 .l (decide (0 ≤ r1_))
noncomputable def wamw (a1_ : Y1) (a2_ : (HL [yi] → Option (Bool))) : Option (Bool) := (waxd a1_ a2_).ev
noncomputable def wbmo : RetK := yr [.tmp 4] Zj
noncomputable def wamx : FD := yd (yj [.dat y1, .clo [yi] .bool]) [] [] Bool (fun x => wamw x.1.1 x.1.2.1) (fun r => ([.dat .bool r], []))
noncomputable def T_zr (a1_ : Int) (a2_ : Int) (a3_ : Int) : Tr (Bool) :=
 .c (Bool) (F_zu a1_ a2_ a3_) fun r1_ =>
 .l (!r1_)
noncomputable def F_zr (a1_ : Int) (a2_ : Int) (a3_ : Int) : Option (Bool) := (T_zr a1_ a2_ a3_).ev
noncomputable def K_zr : RetK := yr [.tmp 4] Zj
noncomputable def D_zr : FD := yd (yj [.dat yi, .ptr Zf, .ptr Zf]) [] [] Bool (fun x => F_zr x.1.1 x.1.2.1.1 x.1.2.2.1.1) (fun r => ([.dat .bool r], []))
noncomputable def T_zq (a1_ : Y1) (a2_ : Int) (a3_ : Int) : Tr (Bool) :=
 .c (Bool) (wamw a1_ (fun h1_ => Option.bind (F_zr h1_.1 a2_ a3_) fun y2_ => some y2_)) fun r3_ =>
 .l (!r3_)
noncomputable def F_zq (a1_ : Y1) (a2_ : Int) (a3_ : Int) : Option (Bool) := (T_zq a1_ a2_ a3_).ev
noncomputable def K_zq : RetK := yr [.tmp 6] Zj
noncomputable def D_zq : FD := yd (yj [.dat y1, .dat yi, .dat yi]) [] [] Bool (fun x => F_zq x.1.1 x.1.2.1 x.1.2.2.1) (fun r => ([.dat .bool r], []))
noncomputable def wlk (k : Y2 × (((HL [y1] → Option (Bool))) × Int)) (v : Int) : Tr ((Int) ⊕ ((Unit) ⊕ (Int))) :=
 .t (decide (v < k.2.2))
 (.g (inR v (length k.1)) <|
 .c (Bool) (k.2.1 ((getD k.1 (toNat v) ([] : Y1)), ())) fun r5_ =>
 .t r5_
 (.l (.inr (.inr v)))
 (.l (.inl (wrap .i64 (v + 1)))))
 (.l (.inr (.inl ())))
noncomputable def wagc (k : Y2 × (((HL [y1] → Option (Bool))) × Int)) (v : Int) : Option ((Unit) ⊕ (Int)) := iter (fun v => (wlk k v).ev) v
noncomputable def wyr : LD := ⟨(yh [0, 1, 7, 8] (yj [.dat y2, .clo [y1] .bool, .dat yi, .dat yi])), [(0, (yh [] .nil))], (yh [4] Zf), Y2 × (((HL [y1] → Option (Bool))) × Int), Int, (Unit) ⊕ (Int), fun k v => ((k.1, (k.2.1, (k.2.2, (v, ())))), ()), fun t => (t.1.1, (t.1.2.1, t.1.2.2.1)), fun t => t.1.2.2.2.1, wlk, fun _ r => .s (Unit) (Int) r (fun _ => .l (.exit 0 (wbd ((ys [] .nil)) ((), ())))) (fun b => .l (.ret (wbd ((ys [4] Zf)) ((b, ()), ()))))⟩
noncomputable def waxe (a1_ : List Y1) (a2_ : (HL [y1] → Option (Bool))) : Tr (Int) :=
 .c ((Unit) ⊕ (Int)) (wagc (a1_, (a2_, ((length a1_ : Nat) : Int))) (0 : Int)) fun r7_ =>
 .s (Unit) (Int) r7_
 (fun _ => .l (-1 : Int))
 (fun r9_ => .l r9_)
noncomputable def wamy (a1_ : List Y1) (a2_ : (HL [y1] → Option (Bool))) : Option (Int) := (waxe a1_ a2_).ev
noncomputable def wbmt : RetK := yr [.tmp 4] Zf
noncomputable def waxf : FD := yd (yj [.dat y2, .clo [y1] .bool]) [] [] Int (fun x => wamy x.1.1 x.1.2.1) (fun r => ([.dat yi r], []))
noncomputable def waxg : Env := wac []
noncomputable def waxh : List (Nat × LD) := [(0, wyr)]
noncomputable def waxi : Code := (f107.body).getD .skip
noncomputable def waxj (a1_ : List Y1) (a2_ : (HL [y1] → Option (Bool))) : Tr (Bool) :=
 .c (Int) (wamy a1_ a2_) fun r1_ =>
 .l (decide (0 ≤ r1_))
noncomputable def wamz (a1_ : List Y1) (a2_ : (HL [y1] → Option (Bool))) : Option (Bool) := (waxj a1_ a2_).ev
noncomputable def wbmu : RetK := yr [.tmp 4] Zj
noncomputable def wana : FD := yd (yj [.dat y2, .clo [y1] .bool]) [] [] Bool (fun x => wamz x.1.1 x.1.2.1) (fun r => ([.dat .bool r], []))
noncomputable def T_zp (a1_ : Y1) (a2_ : Y1) (_a3_ : List Y1) : Tr (Bool) :=
 .t (((length a1_ : Nat) : Int) != ((length a2_ : Nat) : Int))
 (.l true)
 (.c (Bool) (F_zq a1_ (0 : Int) (99 : Int)) fun r1_ =>
 .l (!r1_))
noncomputable def F_zp (a1_ : Y1) (a2_ : Y1) (a3_ : List Y1) : Option (Bool) := (T_zp a1_ a2_ a3_).ev
noncomputable def K_zp : RetK := yr [.tmp 3] Zj
noncomputable def D_zp : FD := yd (yj [.dat y1, .ptr Zg]) [] [] Bool (fun x => F_zp x.1.1 x.1.2.1.1 x.1.2.1.2.1) (fun r => ([.dat .bool r], []))
noncomputable def T_zo (a1_ : Y1) (a2_ : List Y1) : Tr (Bool) :=
 .c (Bool) (F_zu ((length a1_ : Nat) : Int) (1 : Int) (7 : Int)) fun r1_ =>
 .t r1_
 (.c (Bool) (F_zq a1_ (0 : Int) (99 : Int)) fun r2_ =>
 .t r2_
 (.t (decide (((length a2_ : Nat) : Int) ≤ (7 : Int)))
 (.c (Bool) (wamz a2_ (fun h3_ => Option.bind (F_zp h3_.1 a1_ a2_) fun y4_ => some y4_)) fun r5_ =>
 .l (!r5_))
 (.l false))
 (.l false))
 (.l false)
noncomputable def F_zo (a1_ : Y1) (a2_ : List Y1) : Option (Bool) := (T_zo a1_ a2_).ev
noncomputable def K_zo : RetK := yr [.tmp 2] Zj
noncomputable def D_zo : FD := yd (yj [.agg Zg]) [] [] Bool (fun x => F_zo x.1.1.1 x.1.1.2.1) (fun r => ([.dat .bool r], []))
noncomputable def T_zx (a1_ : Int) : Tr (Bool) :=
 .c (Bool) (F_zu a1_ (1 : Int) (5 : Int)) fun r1_ =>
 .l r1_
noncomputable def F_zx (a1_ : Int) : Option (Bool) := (T_zx a1_).ev
noncomputable def K_zx : RetK := yr [.tmp 2] Zj
noncomputable def D_zx : FD := yd Zf [] [] Bool (fun x => F_zx x.1.1) (fun r => ([.dat .bool r], []))
noncomputable def T_zw (a1_ : Y1) (a2_ : List Y1) (a3_ : Int) (a4_ : Int) : Tr (Bool) :=
 .c (Bool) (F_zo a1_ a2_) fun r1_ =>
 .t r1_
 (.c (Bool) (F_zx a3_) fun r2_ =>
 .t r2_
 (.c (Bool) (F_zx a4_) fun r3_ =>
 .l r3_)
 (.l false))
 (.l false)
noncomputable def F_zw (a1_ : Y1) (a2_ : List Y1) (a3_ : Int) (a4_ : Int) : Option (Bool) := (T_zw a1_ a2_ a3_ a4_).ev
noncomputable def K_zw : RetK := yr [.tmp 6] Zj
noncomputable def D_zw : FD := yd (yj [.agg Zg, .dat yi, .dat yi]) [] [] Bool (fun x => F_zw x.1.1.1 x.1.1.2.1 x.1.2.1 x.1.2.2.1) (fun r => ([.dat .bool r], []))
noncomputable def T_zs (a1_ : Int) (a2_ : Int) : Tr (Bool) :=
 .g (decide (0 ≤ a2_)) <|
 .l ((wrap .u64 (BitVec.toNat ((BitVec.ofInt Zb (Int.fdiv a1_ (2 ^ (min (toNat a2_) Zb)))) &&& (BitVec.ofInt Zb (1 : Int))))) == (1 : Int))
noncomputable def F_zs (a1_ : Int) (a2_ : Int) : Option (Bool) := (T_zs a1_ a2_).ev
noncomputable def K_zs : RetK := yr [.tmp 4] Zj
noncomputable def D_zs : FD := yd (yj [.dat (.int .u64), .dat yi]) [] [] Bool (fun x => F_zs x.1.1 x.1.2.1) (fun r => ([.dat .bool r], []))
noncomputable def wys (k : Int) (v : Int × Y1) : Tr (Yv ⊕ Y1) :=
 .g (decide (0 ≤ v.1)) <|
 .t (decide ((0 : Int) < (Int.fdiv k (2 ^ (min (toNat v.1) Zb)))))
 (.c (Bool) (F_zs k v.1) fun r4_ =>
 .t r4_
 (.g (decide ((length v.2 + length ([v.1] : Y1)) * 8 ≤ 140737488355328)) <|
 .l (.inl ((wrap .i64 (v.1 + 1)), (v.2 ++ ([v.1] : Y1)))))
 (.l (.inl ((wrap .i64 (v.1 + 1)), v.2))))
 (.l (.inr v.2))
noncomputable def wagd (k : Int) (v : Int × Y1) : Option Y1 := iter (fun v => (wys k v).ev) v
noncomputable def wage : LD := ⟨{ acts := [], S := { slots := [0, 3, 4], sh := (yj [.dat (.int .u64), .arr 5, .dat yi]), obs := [(5, .arr 3 yi)] } }, [(0, { acts := [], S := { slots := [3], sh := (yj [.arr 5]), obs := [(5, .arr 3 yi)] } })], (yh [] .nil), Int, Int × Y1, Y1, fun k v => ((k, ((), (v.1, ()))), (v.2, ())), fun t => t.1.1, fun t => (t.1.2.2.1, t.2.1), wys, fun _ r => .l (.exit 0 (wbd ({ slots := [3], sh := (yj [.arr 5]), obs := [(5, .arr 3 yi)] }) (((), ()), (r, ()))))⟩
noncomputable def T_zt (a1_ : Int) : Tr Y1 :=
 .c Y1 (wagd a1_ ((0 : Int), ([] : Y1))) fun r6_ =>
 .l r6_
noncomputable def F_zt (a1_ : Int) : Option Y1 := (T_zt a1_).ev
noncomputable def K_zt : RetK := { acts := [.ren 5 0], res := [.tmp 2], sh := (yj [.arr 0]), obs := [(0, .arr 3 yi)], pins := [] }
noncomputable def D_zt : FD := yd (yj [.dat (.int .u64)]) [] [] Y1 (fun x => F_zt x.1.1) (fun r => ([.arr 0], [(0, .arr 3 yi r)]))
noncomputable def E_zt : Env := wac [(110, D_zs)]
noncomputable def O_zt : List (Nat × LD) := [(0, wage)]
noncomputable def C_zt : Code := (f90.body).getD .skip
noncomputable def wanb (a1_ : Int) : Tr (Int) :=
 .t (decide (4294967296 ≤ a1_))
 (.g (decide ((0 : Int) ≤ (32 : Int))) <|
 .t (decide ((65536 : Int) ≤ (Int.fdiv a1_ (2 ^ (min (toNat 32) Zb)))))
 (.g (decide ((0 : Int) ≤ (16 : Int))) <|
 .t (decide ((256 : Int) ≤ (Int.fdiv (Int.fdiv a1_ (2 ^ (min (toNat 32) Zb))) (2 ^ (min (toNat 16) Zb)))))
 (.g (decide ((0 : Int) ≤ (8 : Int))) <|
 .g (inR (wrap .u8 (Int.fdiv (Int.fdiv (Int.fdiv a1_ (2 ^ (min (toNat 32) Zb))) (2 ^ (min (toNat 16) Zb))) (2 ^ (min (toNat 8) Zb)))) (length Za)) <|
 .l (wrap .i64 ((wrap .i64 ((wrap .i64 ((32 : Int) + 16)) + 8)) + (wrap .i64 ((UInt8.toNat (getD Za (toNat (wrap .u8 (Int.fdiv (Int.fdiv (Int.fdiv a1_ (2 ^ (min (toNat 32) Zb))) (2 ^ (min (toNat 16) Zb))) (2 ^ (min (toNat 8) Zb))))) 0) : Nat) : Int)))))
 (.g (inR (wrap .u8 (Int.fdiv (Int.fdiv a1_ (2 ^ (min (toNat 32) Zb))) (2 ^ (min (toNat 16) Zb)))) (length Za)) <|
 .l (wrap .i64 ((wrap .i64 ((32 : Int) + 16)) + (wrap .i64 ((UInt8.toNat (getD Za (toNat (wrap .u8 (Int.fdiv (Int.fdiv a1_ (2 ^ (min (toNat 32) Zb))) (2 ^ (min (toNat 16) Zb))))) 0) : Nat) : Int))))))
 (.t (decide ((256 : Int) ≤ (Int.fdiv a1_ (2 ^ (min (toNat 32) Zb)))))
 (.g (decide ((0 : Int) ≤ (8 : Int))) <|
 .g (inR (wrap .u8 (Int.fdiv (Int.fdiv a1_ (2 ^ (min (toNat 32) Zb))) (2 ^ (min (toNat 8) Zb)))) (length Za)) <|
 .l (wrap .i64 ((wrap .i64 ((32 : Int) + 8)) + (wrap .i64 ((UInt8.toNat (getD Za (toNat (wrap .u8 (Int.fdiv (Int.fdiv a1_ (2 ^ (min (toNat 32) Zb))) (2 ^ (min (toNat 8) Zb))))) 0) : Nat) : Int)))))
 (.g (inR (wrap .u8 (Int.fdiv a1_ (2 ^ (min (toNat 32) Zb)))) (length Za)) <|
 .l (wrap .i64 ((32 : Int) + (wrap .i64 ((UInt8.toNat (getD Za (toNat (wrap .u8 (Int.fdiv a1_ (2 ^ (min (toNat 32) Zb))))) 0) : Nat) : Int)))))))
 (.t (decide (65536 ≤ a1_))
 (.g (decide ((0 : Int) ≤ (16 : Int))) <|
 .t (decide ((256 : Int) ≤ (Int.fdiv a1_ (2 ^ (min (toNat 16) Zb)))))
 (.g (decide ((0 : Int) ≤ (8 : Int))) <|
 .g (inR (wrap .u8 (Int.fdiv (Int.fdiv a1_ (2 ^ (min (toNat 16) Zb))) (2 ^ (min (toNat 8) Zb)))) (length Za)) <|
 .l (wrap .i64 ((wrap .i64 ((wrap .i64 ((0 : Int) + 16)) + 8)) + (wrap .i64 ((UInt8.toNat (getD Za (toNat (wrap .u8 (Int.fdiv (Int.fdiv a1_ (2 ^ (min (toNat 16) Zb))) (2 ^ (min (toNat 8) Zb))))) 0) : Nat) : Int)))))
 (.g (inR (wrap .u8 (Int.fdiv a1_ (2 ^ (min (toNat 16) Zb)))) (length Za)) <|
 .l (wrap .i64 ((wrap .i64 ((0 : Int) + 16)) + (wrap .i64 ((UInt8.toNat (getD Za (toNat (wrap .u8 (Int.fdiv a1_ (2 ^ (min (toNat 16) Zb))))) 0) : Nat) : Int))))))
 (.t (decide (256 ≤ a1_))
 (.g (decide ((0 : Int) ≤ (8 : Int))) <|
 .g (inR (wrap .u8 (Int.fdiv a1_ (2 ^ (min (toNat 8) Zb)))) (length Za)) <|
 .l (wrap .i64 ((wrap .i64 ((0 : Int) + 8)) + (wrap .i64 ((UInt8.toNat (getD Za (toNat (wrap .u8 (Int.fdiv a1_ (2 ^ (min (toNat 8) Zb))))) 0) : Nat) : Int)))))
 (.g (inR (wrap .u8 a1_) (length Za)) <|
 .l (wrap .i64 ((0 : Int) + (wrap .i64 ((UInt8.toNat (getD Za (toNat (wrap .u8 a1_)) 0) : Nat) : Int)))))))
noncomputable def wanc (a1_ : Int) : Option (Int) := (wanb a1_).ev
noncomputable def wbni : RetK := yr [.tmp 2] Zf
noncomputable def waxk : FD := yd (yj [.dat (.int .u64)]) [] [] Int (fun x => wanc x.1.1) (fun r => ([.dat yi r], []))
noncomputable def wand (a1_ : Int) : Tr (Int) :=
 .c (Int) (wanc a1_) fun r1_ =>
 .l r1_
noncomputable def wagf (a1_ : Int) : Option (Int) := (wand a1_).ev
noncomputable def wbnj : RetK := yr [.tmp 2] Zf
noncomputable def wane : FD := yd (yj [.dat (.int .u64)]) [] [] Int (fun x => wagf x.1.1) (fun r => ([.dat yi r], []))
noncomputable def wpg (k : Int × (Int × ((Yd) × Int))) (v : Int × Y2) : Tr (Ym ⊕ Y2) :=
 .t (decide (k.1 < v.1))
 (.g (inR v.1 (length v.2)) <|
 .g (decide ((toNat v.1) < length v.2)) <|
 .g (inR (wrap .i64 (v.1 - 1)) (length v.2)) <|
 .g (decide ((toNat (wrap .i64 (v.1 - 1))) < length v.2)) <|
 .c (Int) (k.2.2.1 ((getD v.2 (toNat v.1) ([] : Y1)), ((getD v.2 (toNat (wrap .i64 (v.1 - 1))) ([] : Y1)), ()))) fun r12_ =>
 .t (decide (r12_ < 0))
 (.g (inR (wrap .i64 (v.1 - 1)) (length v.2)) <|
 .g (decide ((toNat (wrap .i64 (v.1 - 1))) < length v.2)) <|
 .g (inR v.1 (length v.2)) <|
 .g (decide ((toNat v.1) < length v.2)) <|
 .g (inR v.1 (length v.2)) <|
 .g (decide ((toNat v.1) < length v.2)) <|
 .g (inR (wrap .i64 (v.1 - 1)) (length (set v.2 (toNat v.1) (getD v.2 (toNat (wrap .i64 (v.1 - 1))) ([] : Y1))))) <|
 .g (decide ((toNat (wrap .i64 (v.1 - 1))) < length (set v.2 (toNat v.1) (getD v.2 (toNat (wrap .i64 (v.1 - 1))) ([] : Y1))))) <|
 .l (.inl ((wrap .i64 (v.1 - 1)), (set (set v.2 (toNat v.1) (getD v.2 (toNat (wrap .i64 (v.1 - 1))) ([] : Y1))) (toNat (wrap .i64 (v.1 - 1))) (getD v.2 (toNat v.1) ([] : Y1))))))
 (.l (.inr v.2)))
 (.l (.inr v.2))
noncomputable def wvd (k : Int × (Int × ((Yd) × Int))) (v : Int × Y2) : Option Y2 := iter (fun v => (wpg k v).ev) v
noncomputable def wyt : LD := ⟨{ acts := [], S := { slots := [0, 1, 2, 3, 8, 9], sh := (yj [.arr 64, .dat yi, .dat yi, .clo [y1, y1] yi, .dat yi, .dat yi]), obs := [Zk] } }, [(2, { acts := [], S := { slots := [0, 1, 2, 3, 8], sh := (yj [.arr 64, .dat yi, .dat yi, .clo [y1, y1] yi, .dat yi]), obs := [Zk] } })], (yh [] .nil), Int × (Int × ((Yd) × Int)), Int × Y2, List Y1, fun k v => (((), (k.1, (k.2.1, (k.2.2.1, (k.2.2.2, (v.1, ())))))), (v.2, ())), fun t => (t.1.2.1, (t.1.2.2.1, (t.1.2.2.2.1, t.1.2.2.2.2.1))), fun t => (t.1.2.2.2.2.2.1, t.2.1), wpg, fun k r => .l (.exit 2 (wbd ({ slots := [0, 1, 2, 3, 8], sh := (yj [.arr 64, .dat yi, .dat yi, .clo [y1, y1] yi, .dat yi]), obs := [Zk] }) (((), (k.1, (k.2.1, (k.2.2.1, (k.2.2.2, ()))))), (r, ()))))⟩
noncomputable def wph (k : Int × (Int × (Yd))) (v : Int × Y2) : Tr (Ym ⊕ Y2) :=
 .t (decide (v.1 < k.2.1))
 (.c Y2 (wvd (k.1, (k.2.1, (k.2.2, v.1))) (v.1, v.2)) fun r18_ =>
 .l (.inl ((wrap .i64 (v.1 + 1)), r18_)))
 (.l (.inr v.2))
noncomputable def wve (k : Int × (Int × (Yd))) (v : Int × Y2) : Option Y2 := iter (fun v => (wph k v).ev) v
noncomputable def wyu : LD := ⟨{ acts := [], S := { slots := [0, 1, 2, 3, 8], sh := (yj [.arr 64, .dat yi, .dat yi, .clo [y1, y1] yi, .dat yi]), obs := [Zk] } }, [(0, { acts := [], S := { slots := [0], sh := Zx, obs := [Zk] } })], (yh [] .nil), Int × (Int × (Yd)), Int × Y2, List Y1, fun k v => (((), (k.1, (k.2.1, (k.2.2, (v.1, ()))))), (v.2, ())), fun t => (t.1.2.1, (t.1.2.2.1, t.1.2.2.2.1)), fun t => (t.1.2.2.2.2.1, t.2.1), wph, fun _ r => .l (.exit 0 (wbd ({ slots := [0], sh := Zx, obs := [Zk] }) (((), ()), (r, ()))))⟩
noncomputable def wanf (a2_ : Int) (a3_ : Int) (a4_ : Yd) (a1_ : List Y1) : Tr Y2 :=
 .c Y2 (wve (a2_, (a3_, a4_)) ((wrap .i64 (a2_ + 1)), a1_)) fun r20_ =>
 .l r20_
noncomputable def wang (a2_ : Int) (a3_ : Int) (a4_ : Yd) (a1_ : List Y1) : Option Y2 := (wanf a2_ a3_ a4_ a1_).ev
noncomputable def wbnk : RetK := { acts := [], res := [], sh := .nil, obs := [Zk], pins := [(0, 0, 64)] }
noncomputable def waxl : FD := yd (yj [.arr 64, .dat yi, .dat yi, .clo [y1, y1] yi]) [Zk] [.arg 0] (List Y1) (fun x => wang x.1.2.1 x.1.2.2.1 x.1.2.2.2.1 x.2.1) (fun r => ([], [(64, .arr 22 y1 r)]))
noncomputable def wanh : Env := wac []
noncomputable def wani : List (Nat × LD) := [(2, wyt), (0, wyu)]
noncomputable def wanj : Code := (f129.body).getD .skip
noncomputable def wank (a1_ : Int) : Tr (Int) :=
 .c (Int) (wagf (wrap .u64 a1_)) fun r1_ =>
 .g (decide (0 ≤ r1_)) <|
 .l (wrap .u64 ((1 : Int) * 2 ^ (min (toNat r1_) Zb)))
noncomputable def wanl (a1_ : Int) : Option (Int) := (wank a1_).ev
noncomputable def wbnl : RetK := yr [.tmp 2] (yj [.dat (.int .u64)])
noncomputable def waxm : FD := yd Zf [] [] Int (fun x => wanl x.1.1) (fun r => ([.dat (.int .u64) r], []))
noncomputable def wanm (a1_ : Int) : Tr Ye :=
 .g (decide ((0 : Int) ≤ (13 : Int))) <|
 .g (decide ((0 : Int) ≤ (7 : Int))) <|
 .g (decide ((0 : Int) ≤ (17 : Int))) <|
 .l ((wrap .u64 (BitVec.toNat ((BitVec.ofInt Zb (wrap .u64 (BitVec.toNat ((BitVec.ofInt Zb (wrap .u64 (BitVec.toNat ((BitVec.ofInt Zb a1_) ^^^ (BitVec.ofInt Zb (wrap .u64 (a1_ * 2 ^ (min (toNat 13) Zb)))))))) ^^^ (BitVec.ofInt Zb (Int.fdiv (wrap .u64 (BitVec.toNat ((BitVec.ofInt Zb a1_) ^^^ (BitVec.ofInt Zb (wrap .u64 (a1_ * 2 ^ (min (toNat 13) Zb))))))) (2 ^ (min (toNat 7) Zb)))))))) ^^^ (BitVec.ofInt Zb (wrap .u64 ((wrap .u64 (BitVec.toNat ((BitVec.ofInt Zb (wrap .u64 (BitVec.toNat ((BitVec.ofInt Zb a1_) ^^^ (BitVec.ofInt Zb (wrap .u64 (a1_ * 2 ^ (min (toNat 13) Zb)))))))) ^^^ (BitVec.ofInt Zb (Int.fdiv (wrap .u64 (BitVec.toNat ((BitVec.ofInt Zb a1_) ^^^ (BitVec.ofInt Zb (wrap .u64 (a1_ * 2 ^ (min (toNat 13) Zb))))))) (2 ^ (min (toNat 7) Zb))))))) * 2 ^ (min (toNat 17) Zb))))))), (wrap .u64 (BitVec.toNat ((BitVec.ofInt Zb (wrap .u64 (BitVec.toNat ((BitVec.ofInt Zb (wrap .u64 (BitVec.toNat ((BitVec.ofInt Zb a1_) ^^^ (BitVec.ofInt Zb (wrap .u64 (a1_ * 2 ^ (min (toNat 13) Zb)))))))) ^^^ (BitVec.ofInt Zb (Int.fdiv (wrap .u64 (BitVec.toNat ((BitVec.ofInt Zb a1_) ^^^ (BitVec.ofInt Zb (wrap .u64 (a1_ * 2 ^ (min (toNat 13) Zb))))))) (2 ^ (min (toNat 7) Zb)))))))) ^^^ (BitVec.ofInt Zb (wrap .u64 ((wrap .u64 (BitVec.toNat ((BitVec.ofInt Zb (wrap .u64 (BitVec.toNat ((BitVec.ofInt Zb a1_) ^^^ (BitVec.ofInt Zb (wrap .u64 (a1_ * 2 ^ (min (toNat 13) Zb)))))))) ^^^ (BitVec.ofInt Zb (Int.fdiv (wrap .u64 (BitVec.toNat ((BitVec.ofInt Zb a1_) ^^^ (BitVec.ofInt Zb (wrap .u64 (a1_ * 2 ^ (min (toNat 13) Zb))))))) (2 ^ (min (toNat 7) Zb))))))) * 2 ^ (min (toNat 17) Zb))))))))
noncomputable def wann (a1_ : Int) : Option Ye := (wanm a1_).ev
noncomputable def wbnm : RetK := { acts := [], res := [.tmp 2], sh := (yj [.dat (.int .u64)]), obs := [(64, .cells (yj [.dat (.int .u64)]))], pins := [(0, 0, 64)] }
noncomputable def waxn : FD := yd (yj [.box 64 0]) [(64, .cells (yj [.dat (.int .u64)]))] [.arg 0] (Int × (Int)) (fun x => wann x.2.1.1) (fun r => ([.dat (.int .u64) r.1], [(64, .cells [.dat (.int .u64) r.2])]))
noncomputable def wpi (k : Int × Ye) (v : Int × (Y2 × Int)) : Tr ((Int × (Y2 × Int)) ⊕ Y2) :=
 .g (!decide ((4 : Int) = 0)) <|
 .t (decide (v.1 ≤ (wrap .i64 ((wrap .i64 (k.1 + (wrap .i64 ((wrap .i64 (Int.tdiv k.2.1 (4 : Int))) * (2 : Int))))) + 1))))
 (.c Ye (wann v.2.2) fun r8_ =>
 .t (decide (k.2.1 ≤ (wrap .i64 (wrap .u64 (BitVec.toNat ((BitVec.ofInt Zb r8_.1) &&& (BitVec.ofInt Zb (wrap .u64 (k.2.2 - 1)))))))))
 (.g (inR (wrap .i64 (k.1 + (wrap .i64 ((wrap .i64 (wrap .u64 (BitVec.toNat ((BitVec.ofInt Zb r8_.1) &&& (BitVec.ofInt Zb (wrap .u64 (k.2.2 - 1))))))) - k.2.1)))) (length v.2.1)) <|
 .g (decide ((toNat (wrap .i64 (k.1 + (wrap .i64 ((wrap .i64 (wrap .u64 (BitVec.toNat ((BitVec.ofInt Zb r8_.1) &&& (BitVec.ofInt Zb (wrap .u64 (k.2.2 - 1))))))) - k.2.1))))) < length v.2.1)) <|
 .g (inR v.1 (length v.2.1)) <|
 .g (decide ((toNat v.1) < length v.2.1)) <|
 .g (inR v.1 (length v.2.1)) <|
 .g (decide ((toNat v.1) < length v.2.1)) <|
 .g (inR (wrap .i64 (k.1 + (wrap .i64 ((wrap .i64 (wrap .u64 (BitVec.toNat ((BitVec.ofInt Zb r8_.1) &&& (BitVec.ofInt Zb (wrap .u64 (k.2.2 - 1))))))) - k.2.1)))) (length (set v.2.1 (toNat v.1) (getD v.2.1 (toNat (wrap .i64 (k.1 + (wrap .i64 ((wrap .i64 (wrap .u64 (BitVec.toNat ((BitVec.ofInt Zb r8_.1) &&& (BitVec.ofInt Zb (wrap .u64 (k.2.2 - 1))))))) - k.2.1))))) ([] : Y1))))) <|
 .g (decide ((toNat (wrap .i64 (k.1 + (wrap .i64 ((wrap .i64 (wrap .u64 (BitVec.toNat ((BitVec.ofInt Zb r8_.1) &&& (BitVec.ofInt Zb (wrap .u64 (k.2.2 - 1))))))) - k.2.1))))) < length (set v.2.1 (toNat v.1) (getD v.2.1 (toNat (wrap .i64 (k.1 + (wrap .i64 ((wrap .i64 (wrap .u64 (BitVec.toNat ((BitVec.ofInt Zb r8_.1) &&& (BitVec.ofInt Zb (wrap .u64 (k.2.2 - 1))))))) - k.2.1))))) ([] : Y1))))) <|
 .l (.inl ((wrap .i64 (v.1 + 1)), ((set (set v.2.1 (toNat v.1) (getD v.2.1 (toNat (wrap .i64 (k.1 + (wrap .i64 ((wrap .i64 (wrap .u64 (BitVec.toNat ((BitVec.ofInt Zb r8_.1) &&& (BitVec.ofInt Zb (wrap .u64 (k.2.2 - 1))))))) - k.2.1))))) ([] : Y1))) (toNat (wrap .i64 (k.1 + (wrap .i64 ((wrap .i64 (wrap .u64 (BitVec.toNat ((BitVec.ofInt Zb r8_.1) &&& (BitVec.ofInt Zb (wrap .u64 (k.2.2 - 1))))))) - k.2.1))))) (getD v.2.1 (toNat v.1) ([] : Y1))), r8_.2))))
 (.g (inR (wrap .i64 (k.1 + (wrap .i64 (wrap .u64 (BitVec.toNat ((BitVec.ofInt Zb r8_.1) &&& (BitVec.ofInt Zb (wrap .u64 (k.2.2 - 1))))))))) (length v.2.1)) <|
 .g (decide ((toNat (wrap .i64 (k.1 + (wrap .i64 (wrap .u64 (BitVec.toNat ((BitVec.ofInt Zb r8_.1) &&& (BitVec.ofInt Zb (wrap .u64 (k.2.2 - 1)))))))))) < length v.2.1)) <|
 .g (inR v.1 (length v.2.1)) <|
 .g (decide ((toNat v.1) < length v.2.1)) <|
 .g (inR v.1 (length v.2.1)) <|
 .g (decide ((toNat v.1) < length v.2.1)) <|
 .g (inR (wrap .i64 (k.1 + (wrap .i64 (wrap .u64 (BitVec.toNat ((BitVec.ofInt Zb r8_.1) &&& (BitVec.ofInt Zb (wrap .u64 (k.2.2 - 1))))))))) (length (set v.2.1 (toNat v.1) (getD v.2.1 (toNat (wrap .i64 (k.1 + (wrap .i64 (wrap .u64 (BitVec.toNat ((BitVec.ofInt Zb r8_.1) &&& (BitVec.ofInt Zb (wrap .u64 (k.2.2 - 1)))))))))) ([] : Y1))))) <|
 .g (decide ((toNat (wrap .i64 (k.1 + (wrap .i64 (wrap .u64 (BitVec.toNat ((BitVec.ofInt Zb r8_.1) &&& (BitVec.ofInt Zb (wrap .u64 (k.2.2 - 1)))))))))) < length (set v.2.1 (toNat v.1) (getD v.2.1 (toNat (wrap .i64 (k.1 + (wrap .i64 (wrap .u64 (BitVec.toNat ((BitVec.ofInt Zb r8_.1) &&& (BitVec.ofInt Zb (wrap .u64 (k.2.2 - 1)))))))))) ([] : Y1))))) <|
 .l (.inl ((wrap .i64 (v.1 + 1)), ((set (set v.2.1 (toNat v.1) (getD v.2.1 (toNat (wrap .i64 (k.1 + (wrap .i64 (wrap .u64 (BitVec.toNat ((BitVec.ofInt Zb r8_.1) &&& (BitVec.ofInt Zb (wrap .u64 (k.2.2 - 1)))))))))) ([] : Y1))) (toNat (wrap .i64 (k.1 + (wrap .i64 (wrap .u64 (BitVec.toNat ((BitVec.ofInt Zb r8_.1) &&& (BitVec.ofInt Zb (wrap .u64 (k.2.2 - 1)))))))))) (getD v.2.1 (toNat v.1) ([] : Y1))), r8_.2)))))
 (.l (.inr v.2.1))
noncomputable def wvf (k : Int × Ye) (v : Int × (Y2 × Int)) : Option Y2 := iter (fun v => (wpi k v).ev) v
noncomputable def wyv : LD := ⟨{ acts := [], S := { slots := [0, 1, 8, 9, 10, 11], sh := (yj [.arr 64, .dat yi, .dat yi, .box 9 0, .dat (.int .u64), .dat yi]), obs := [Zk, (9, .cells (yj [.dat (.int .u64)]))] } }, [(0, { acts := [], S := { slots := [0], sh := Zx, obs := [Zk] } })], (yh [] .nil), Int × Ye, Int × (Y2 × Int), List Y1, fun k v => (((), (k.1, (k.2.1, ((), (k.2.2, (v.1, ())))))), (v.2.1, ((v.2.2, ()), ()))), fun t => (t.1.2.1, (t.1.2.2.1, t.1.2.2.2.2.1)), fun t => (t.1.2.2.2.2.2.1, (t.2.1, t.2.2.1.1)), wpi, fun _ r => .l (.exit 0 (wbd ({ slots := [0], sh := Zx, obs := [Zk] }) (((), ()), (r, ()))))⟩
noncomputable def wano (a2_ : Int) (a3_ : Int) (_a4_ : Yd) (a1_ : List Y1) : Tr Y2 :=
 .t (decide ((8 : Int) ≤ (wrap .i64 (a3_ - a2_))))
 (.c (Int) (wanl (wrap .i64 (a3_ - a2_))) fun r1_ =>
 .g (!decide ((4 : Int) = 0)) <|
 .c Y2 (wvf (a2_, ((wrap .i64 (a3_ - a2_)), r1_)) ((wrap .i64 ((wrap .i64 (a2_ + (wrap .i64 ((wrap .i64 (Int.tdiv (wrap .i64 (a3_ - a2_)) (4 : Int))) * (2 : Int))))) - 1)), (a1_, (wrap .u64 (wrap .i64 (a3_ - a2_)))))) fun r10_ =>
 .l r10_)
 (.l a1_)
noncomputable def wanp (a2_ : Int) (a3_ : Int) (a4_ : Yd) (a1_ : List Y1) : Option Y2 := (wano a2_ a3_ a4_ a1_).ev
noncomputable def wbnn : RetK := { acts := [], res := [], sh := .nil, obs := [Zk], pins := [(0, 0, 64)] }
noncomputable def waxo : FD := yd (yj [.arr 64, .dat yi, .dat yi, .clo [y1, y1] yi]) [Zk] [.arg 0] (List Y1) (fun x => wanp x.1.2.1 x.1.2.2.1 x.1.2.2.2.1 x.2.1) (fun r => ([], [(64, .arr 22 y1 r)]))
noncomputable def waxp : Env := wac [(154, waxm), (155, waxn)]
noncomputable def waxq : List (Nat × LD) := [(0, wyv)]
noncomputable def waxr : Code := (f131.body).getD .skip
noncomputable def wanq (a1_ : List Y1) (a2_ : Int) (a3_ : Int) (a5_ : Yd) (a4_ : Int) : Tr (Int × Ye) :=
 .g (inR a3_ (length a1_)) <|
 .g (inR a2_ (length a1_)) <|
 .c (Int) (a5_ ((getD a1_ (toNat a3_) ([] : Y1)), ((getD a1_ (toNat a2_) ([] : Y1)), ()))) fun r1_ =>
 .t (decide (r1_ < 0))
 (.l (a3_, (a2_, (wrap .i64 (a4_ + 1)))))
 (.l (a2_, (a3_, a4_)))
noncomputable def wabx (a1_ : List Y1) (a2_ : Int) (a3_ : Int) (a5_ : Yd) (a4_ : Int) : Option (Int × Ye) := (wanq a1_ a2_ a3_ a5_ a4_).ev
noncomputable def wbno : RetK := { acts := [], res := [.tmp 10, .tmp 11], sh := Zt, obs := [(64, .cells Zf)], pins := [(3, 0, 64)] }
noncomputable def waxs : FD := yd (yj [.dat y2, .dat yi, .dat yi, .box 64 0, .clo [y1, y1] yi]) [(64, .cells Zf)] [.arg 3] (Int × Ye) (fun x => wabx x.1.1 x.1.2.1 x.1.2.2.1 x.1.2.2.2.2.1 x.2.1.1) (fun r => ([.dat yi r.1, .dat yi r.2.1], [(64, .cells [.dat yi r.2.2])]))
noncomputable def wanr (a1_ : List Y1) (a2_ : Int) (a3_ : Int) (a4_ : Int) (a6_ : Yd) (a5_ : Int) : Tr Ye :=
 .c (Int × Ye) (wabx a1_ a2_ a3_ a6_ a5_) fun r1_ =>
 .c (Int × Ye) (wabx a1_ r1_.2.1 a4_ a6_ r1_.2.2) fun r2_ =>
 .c (Int × Ye) (wabx a1_ r1_.1 r2_.1 a6_ r2_.2.2) fun r3_ =>
 .l (r3_.2.1, r3_.2.2)
noncomputable def waby (a1_ : List Y1) (a2_ : Int) (a3_ : Int) (a4_ : Int) (a6_ : Yd) (a5_ : Int) : Option Ye := (wanr a1_ a2_ a3_ a4_ a6_ a5_).ev
noncomputable def wbnp : RetK := { acts := [], res := [.tmp 12], sh := Zf, obs := [(64, .cells Zf)], pins := [(4, 0, 64)] }
noncomputable def wans : FD := yd (yj [.dat y2, .dat yi, .dat yi, .dat yi, .box 64 0, .clo [y1, y1] yi]) [(64, .cells Zf)] [.arg 4] (Int × (Int)) (fun x => waby x.1.1 x.1.2.1 x.1.2.2.1 x.1.2.2.2.1 x.1.2.2.2.2.2.1 x.2.1.1) (fun r => ([.dat yi r.1], [(64, .cells [.dat yi r.2])]))
noncomputable def wanu (a1_ : List Y1) (a2_ : Int) (a4_ : Yd) (a3_ : Int) : Tr Ye :=
 .c Ye (waby a1_ (wrap .i64 (a2_ - 1)) a2_ (wrap .i64 (a2_ + 1)) a4_ a3_) fun r1_ =>
 .l (r1_.1, r1_.2)
noncomputable def wabz (a1_ : List Y1) (a2_ : Int) (a4_ : Yd) (a3_ : Int) : Option Ye := (wanu a1_ a2_ a4_ a3_).ev
noncomputable def wbnq : RetK := { acts := [], res := [.tmp 8], sh := Zf, obs := [(64, .cells Zf)], pins := [(2, 0, 64)] }
noncomputable def waxt : FD := yd (yj [.dat y2, .dat yi, .box 64 0, .clo [y1, y1] yi]) [(64, .cells Zf)] [.arg 2] (Int × (Int)) (fun x => wabz x.1.1 x.1.2.1 x.1.2.2.2.1 x.2.1.1) (fun r => ([.dat yi r.1], [(64, .cells [.dat yi r.2])]))
noncomputable def wanv (a1_ : List Y1) (a2_ : Int) (a3_ : Int) (a4_ : Yd) : Tr Ye :=
 .g (!decide ((4 : Int) = 0)) <|
 .g (!decide ((4 : Int) = 0)) <|
 .g (!decide ((4 : Int) = 0)) <|
 .t (decide ((8 : Int) ≤ (wrap .i64 (a3_ - a2_))))
 (.t (decide ((50 : Int) ≤ (wrap .i64 (a3_ - a2_))))
 (.c Ye (wabz a1_ (wrap .i64 (a2_ + (wrap .i64 ((wrap .i64 (Int.tdiv (wrap .i64 (a3_ - a2_)) (4 : Int))) * (1 : Int))))) a4_ (0 : Int)) fun r1_ =>
 .c Ye (wabz a1_ (wrap .i64 (a2_ + (wrap .i64 ((wrap .i64 (Int.tdiv (wrap .i64 (a3_ - a2_)) (4 : Int))) * (2 : Int))))) a4_ r1_.2) fun r2_ =>
 .c Ye (wabz a1_ (wrap .i64 (a2_ + (wrap .i64 ((wrap .i64 (Int.tdiv (wrap .i64 (a3_ - a2_)) (4 : Int))) * (3 : Int))))) a4_ r2_.2) fun r3_ =>
 .c Ye (waby a1_ r1_.1 r2_.1 r3_.1 a4_ r3_.2) fun r4_ =>
 .t (r4_.2 == 0)
 (.l (r4_.1, (1 : Int)))
 (.t (r4_.2 == 12)
 (.l (r4_.1, (2 : Int)))
 (.l (r4_.1, (0 : Int)))))
 (.c Ye (waby a1_ (wrap .i64 (a2_ + (wrap .i64 ((wrap .i64 (Int.tdiv (wrap .i64 (a3_ - a2_)) (4 : Int))) * (1 : Int))))) (wrap .i64 (a2_ + (wrap .i64 ((wrap .i64 (Int.tdiv (wrap .i64 (a3_ - a2_)) (4 : Int))) * (2 : Int))))) (wrap .i64 (a2_ + (wrap .i64 ((wrap .i64 (Int.tdiv (wrap .i64 (a3_ - a2_)) (4 : Int))) * (3 : Int))))) a4_ (0 : Int)) fun r5_ =>
 .t (r5_.2 == 0)
 (.l (r5_.1, (1 : Int)))
 (.t (r5_.2 == 12)
 (.l (r5_.1, (2 : Int)))
 (.l (r5_.1, (0 : Int))))))
 (.t ((0 : Int) == (0 : Int))
 (.l ((wrap .i64 (a2_ + (wrap .i64 ((wrap .i64 (Int.tdiv (wrap .i64 (a3_ - a2_)) (4 : Int))) * (2 : Int))))), (1 : Int)))
 (.t ((0 : Int) == (12 : Int))
 (.l ((wrap .i64 (a2_ + (wrap .i64 ((wrap .i64 (Int.tdiv (wrap .i64 (a3_ - a2_)) (4 : Int))) * (2 : Int))))), (2 : Int)))
 (.l ((wrap .i64 (a2_ + (wrap .i64 ((wrap .i64 (Int.tdiv (wrap .i64 (a3_ - a2_)) (4 : Int))) * (2 : Int))))), (0 : Int)))))
noncomputable def wagg (a1_ : List Y1) (a2_ : Int) (a3_ : Int) (a4_ : Yd) : Option Ye := (wanv a1_ a2_ a3_ a4_).ev
noncomputable def wbnr : RetK := yr [.tmp 8, .tmp 9] Zt
noncomputable def waxu : FD := yd (yj [.dat y2, .dat yi, .dat yi, .clo [y1, y1] yi]) [] [] (Int × (Int)) (fun x => wagg x.1.1 x.1.2.1 x.1.2.2.1 x.1.2.2.2.1) (fun r => ([.dat yi r.1, .dat yi r.2], []))
noncomputable def wpj (k : Int × Yw) (v : Int) : Tr ((Int) ⊕ (Int)) :=
 .t (decide (v ≤ k.2.2.1))
 (.g (inR v (length k.2.2.2)) <|
 .g (decide ((toNat v) < length k.2.2.2)) <|
 .g (inR k.1 (length k.2.2.2)) <|
 .g (decide ((toNat k.1) < length k.2.2.2)) <|
 .c (Int) (k.2.1 ((getD k.2.2.2 (toNat v) ([] : Y1)), ((getD k.2.2.2 (toNat k.1) ([] : Y1)), ()))) fun r6_ =>
 .t (decide (r6_ < 0))
 (.l (.inl (wrap .i64 (v + 1))))
 (.l (.inr v)))
 (.l (.inr v))
noncomputable def wvg (k : Int × Yw) (v : Int) : Option (Int) := iter (fun v => (wpj k v).ev) v
noncomputable def wyw : LD := ⟨{ acts := [], S := { slots := [0, 1, 4, 12, 13], sh := Zh, obs := [Zk] } }, [(0, { acts := [], S := { slots := [0, 1, 4, 12, 13], sh := Zh, obs := [Zk] } })], (yh [] .nil), Int × Yw, Int, Int, fun k v => (((), (k.1, (k.2.1, (v, (k.2.2.1, ()))))), (k.2.2.2, ())), fun t => (t.1.2.1, (t.1.2.2.1, (t.1.2.2.2.2.1, t.2.1))), fun t => t.1.2.2.2.1, wpj, fun k r => .l (.exit 0 (wbd ({ slots := [0, 1, 4, 12, 13], sh := Zh, obs := [Zk] }) (((), (k.1, (k.2.1, (r, (k.2.2.1, ()))))), (k.2.2.2, ()))))⟩
noncomputable def wpk (k : Int × Yw) (v : Int) : Tr ((Int) ⊕ (Int)) :=
 .t (decide (k.2.2.1 ≤ v))
 (.g (inR v (length k.2.2.2)) <|
 .g (decide ((toNat v) < length k.2.2.2)) <|
 .g (inR k.1 (length k.2.2.2)) <|
 .g (decide ((toNat k.1) < length k.2.2.2)) <|
 .c (Int) (k.2.1 ((getD k.2.2.2 (toNat v) ([] : Y1)), ((getD k.2.2.2 (toNat k.1) ([] : Y1)), ()))) fun r18_ =>
 .t (!(decide (r18_ < 0)))
 (.l (.inl (wrap .i64 (v - 1))))
 (.l (.inr v)))
 (.l (.inr v))
noncomputable def wvh (k : Int × Yw) (v : Int) : Option (Int) := iter (fun v => (wpk k v).ev) v
noncomputable def wyx : LD := ⟨{ acts := [], S := { slots := [0, 1, 4, 12, 13], sh := Zh, obs := [Zk] } }, [(2, { acts := [], S := { slots := [0, 1, 4, 12, 13], sh := Zh, obs := [Zk] } })], (yh [] .nil), Int × Yw, Int, Int, fun k v => (((), (k.1, (k.2.1, (k.2.2.1, (v, ()))))), (k.2.2.2, ())), fun t => (t.1.2.1, (t.1.2.2.1, (t.1.2.2.2.1, t.2.1))), fun t => t.1.2.2.2.2.1, wpk, fun k r => .l (.exit 2 (wbd ({ slots := [0, 1, 4, 12, 13], sh := Zh, obs := [Zk] }) (((), (k.1, (k.2.1, (k.2.2.1, (r, ()))))), (k.2.2.2, ()))))⟩
noncomputable def wpm (k : Int × Yw) (v : Int) : Tr ((Int) ⊕ (Int)) :=
 .t (decide (v ≤ k.2.2.1))
 (.g (inR v (length k.2.2.2)) <|
 .g (decide ((toNat v) < length k.2.2.2)) <|
 .g (inR k.1 (length k.2.2.2)) <|
 .g (decide ((toNat k.1) < length k.2.2.2)) <|
 .c (Int) (k.2.1 ((getD k.2.2.2 (toNat v) ([] : Y1)), ((getD k.2.2.2 (toNat k.1) ([] : Y1)), ()))) fun r35_ =>
 .t (decide (r35_ < 0))
 (.l (.inl (wrap .i64 (v + 1))))
 (.l (.inr v)))
 (.l (.inr v))
noncomputable def wvi (k : Int × Yw) (v : Int) : Option (Int) := iter (fun v => (wpm k v).ev) v
noncomputable def wyy : LD := ⟨{ acts := [], S := { slots := [0, 1, 4, 12, 13], sh := Zh, obs := [Zk] } }, [(6, { acts := [], S := { slots := [0, 1, 4, 12, 13], sh := Zh, obs := [Zk] } })], (yh [] .nil), Int × Yw, Int, Int, fun k v => (((), (k.1, (k.2.1, (v, (k.2.2.1, ()))))), (k.2.2.2, ())), fun t => (t.1.2.1, (t.1.2.2.1, (t.1.2.2.2.2.1, t.2.1))), fun t => t.1.2.2.2.1, wpm, fun k r => .l (.exit 6 (wbd ({ slots := [0, 1, 4, 12, 13], sh := Zh, obs := [Zk] }) (((), (k.1, (k.2.1, (r, (k.2.2.1, ()))))), (k.2.2.2, ()))))⟩
noncomputable def wpn (k : Int × Yw) (v : Int) : Tr ((Int) ⊕ (Int)) :=
 .t (decide (k.2.2.1 ≤ v))
 (.g (inR v (length k.2.2.2)) <|
 .g (decide ((toNat v) < length k.2.2.2)) <|
 .g (inR k.1 (length k.2.2.2)) <|
 .g (decide ((toNat k.1) < length k.2.2.2)) <|
 .c (Int) (k.2.1 ((getD k.2.2.2 (toNat v) ([] : Y1)), ((getD k.2.2.2 (toNat k.1) ([] : Y1)), ()))) fun r47_ =>
 .t (!(decide (r47_ < 0)))
 (.l (.inl (wrap .i64 (v - 1))))
 (.l (.inr v)))
 (.l (.inr v))
noncomputable def wvj (k : Int × Yw) (v : Int) : Option (Int) := iter (fun v => (wpn k v).ev) v
noncomputable def wyz : LD := ⟨{ acts := [], S := { slots := [0, 1, 4, 12, 13], sh := Zh, obs := [Zk] } }, [(8, { acts := [], S := { slots := [0, 1, 4, 12, 13], sh := Zh, obs := [Zk] } })], (yh [] .nil), Int × Yw, Int, Int, fun k v => (((), (k.1, (k.2.1, (k.2.2.1, (v, ()))))), (k.2.2.2, ())), fun t => (t.1.2.1, (t.1.2.2.1, (t.1.2.2.2.1, t.2.1))), fun t => t.1.2.2.2.2.1, wpn, fun k r => .l (.exit 8 (wbd ({ slots := [0, 1, 4, 12, 13], sh := Zh, obs := [Zk] }) (((), (k.1, (k.2.1, (k.2.2.1, (r, ()))))), (k.2.2.2, ()))))⟩
noncomputable def wpo (k : Int × (Yd)) (v : Int × Ym) : Tr ((Int × Ym) ⊕ Ym) :=
 .c (Int) (wvi (k.1, (k.2, (v.2.1, v.2.2))) v.1) fun r41_ =>
 .c (Int) (wvj (k.1, (k.2, (r41_, v.2.2))) v.2.1) fun r53_ =>
 .t (decide (r53_ < r41_))
 (.l (.inr (r53_, v.2.2)))
 (.g (inR r53_ (length v.2.2)) <|
 .g (decide ((toNat r53_) < length v.2.2)) <|
 .g (inR r41_ (length v.2.2)) <|
 .g (decide ((toNat r41_) < length v.2.2)) <|
 .g (inR r41_ (length v.2.2)) <|
 .g (decide ((toNat r41_) < length v.2.2)) <|
 .g (inR r53_ (length (set v.2.2 (toNat r41_) (getD v.2.2 (toNat r53_) ([] : Y1))))) <|
 .g (decide ((toNat r53_) < length (set v.2.2 (toNat r41_) (getD v.2.2 (toNat r53_) ([] : Y1))))) <|
 .l (.inl ((wrap .i64 (r41_ + 1)), ((wrap .i64 (r53_ - 1)), (set (set v.2.2 (toNat r41_) (getD v.2.2 (toNat r53_) ([] : Y1))) (toNat r53_) (getD v.2.2 (toNat r41_) ([] : Y1)))))))
noncomputable def wvk (k : Int × (Yd)) (v : Int × Ym) : Option Ym := iter (fun v => (wpo k v).ev) v
noncomputable def wza : LD := ⟨{ acts := [], S := { slots := [0, 1, 4, 12, 13], sh := Zh, obs := [Zk] } }, [(4, { acts := [], S := { slots := [0, 1, 13], sh := Zn, obs := [Zk] } })], (yh [] .nil), Int × (Yd), Int × Ym, Int × Y2, fun k v => (((), (k.1, (k.2, (v.1, (v.2.1, ()))))), (v.2.2, ())), fun t => (t.1.2.1, t.1.2.2.1), fun t => (t.1.2.2.2.1, (t.1.2.2.2.2.1, t.2.1)), wpo, fun k r => .l (.exit 4 (wbd ({ slots := [0, 1, 13], sh := Zn, obs := [Zk] }) (((), (k.1, (r.1, ()))), (r.2, ()))))⟩
noncomputable def wanw (a2_ : Int) (a3_ : Int) (a4_ : Int) (a5_ : Yd) (a1_ : List Y1) : Tr Yi :=
 .g (inR a4_ (length a1_)) <|
 .g (decide ((toNat a4_) < length a1_)) <|
 .g (inR a2_ (length a1_)) <|
 .g (decide ((toNat a2_) < length a1_)) <|
 .g (inR a2_ (length a1_)) <|
 .g (decide ((toNat a2_) < length a1_)) <|
 .g (inR a4_ (length (set a1_ (toNat a2_) (getD a1_ (toNat a4_) ([] : Y1))))) <|
 .g (decide ((toNat a4_) < length (set a1_ (toNat a2_) (getD a1_ (toNat a4_) ([] : Y1))))) <|
 .c (Int) (wvg (a2_, (a5_, ((wrap .i64 (a3_ - 1)), (set (set a1_ (toNat a2_) (getD a1_ (toNat a4_) ([] : Y1))) (toNat a4_) (getD a1_ (toNat a2_) ([] : Y1)))))) (wrap .i64 (a2_ + 1))) fun r12_ =>
 .c (Int) (wvh (a2_, (a5_, (r12_, (set (set a1_ (toNat a2_) (getD a1_ (toNat a4_) ([] : Y1))) (toNat a4_) (getD a1_ (toNat a2_) ([] : Y1)))))) (wrap .i64 (a3_ - 1))) fun r24_ =>
 .t (decide (r24_ < r12_))
 (.g (inR a2_ (length (set (set a1_ (toNat a2_) (getD a1_ (toNat a4_) ([] : Y1))) (toNat a4_) (getD a1_ (toNat a2_) ([] : Y1))))) <|
 .g (decide ((toNat a2_) < length (set (set a1_ (toNat a2_) (getD a1_ (toNat a4_) ([] : Y1))) (toNat a4_) (getD a1_ (toNat a2_) ([] : Y1))))) <|
 .g (inR r24_ (length (set (set a1_ (toNat a2_) (getD a1_ (toNat a4_) ([] : Y1))) (toNat a4_) (getD a1_ (toNat a2_) ([] : Y1))))) <|
 .g (decide ((toNat r24_) < length (set (set a1_ (toNat a2_) (getD a1_ (toNat a4_) ([] : Y1))) (toNat a4_) (getD a1_ (toNat a2_) ([] : Y1))))) <|
 .g (inR r24_ (length (set (set a1_ (toNat a2_) (getD a1_ (toNat a4_) ([] : Y1))) (toNat a4_) (getD a1_ (toNat a2_) ([] : Y1))))) <|
 .g (decide ((toNat r24_) < length (set (set a1_ (toNat a2_) (getD a1_ (toNat a4_) ([] : Y1))) (toNat a4_) (getD a1_ (toNat a2_) ([] : Y1))))) <|
 .g (inR a2_ (length (set (set (set a1_ (toNat a2_) (getD a1_ (toNat a4_) ([] : Y1))) (toNat a4_) (getD a1_ (toNat a2_) ([] : Y1))) (toNat r24_) (getD (set (set a1_ (toNat a2_) (getD a1_ (toNat a4_) ([] : Y1))) (toNat a4_) (getD a1_ (toNat a2_) ([] : Y1))) (toNat a2_) ([] : Y1))))) <|
 .g (decide ((toNat a2_) < length (set (set (set a1_ (toNat a2_) (getD a1_ (toNat a4_) ([] : Y1))) (toNat a4_) (getD a1_ (toNat a2_) ([] : Y1))) (toNat r24_) (getD (set (set a1_ (toNat a2_) (getD a1_ (toNat a4_) ([] : Y1))) (toNat a4_) (getD a1_ (toNat a2_) ([] : Y1))) (toNat a2_) ([] : Y1))))) <|
 .l (r24_, (true, (set (set (set (set a1_ (toNat a2_) (getD a1_ (toNat a4_) ([] : Y1))) (toNat a4_) (getD a1_ (toNat a2_) ([] : Y1))) (toNat r24_) (getD (set (set a1_ (toNat a2_) (getD a1_ (toNat a4_) ([] : Y1))) (toNat a4_) (getD a1_ (toNat a2_) ([] : Y1))) (toNat a2_) ([] : Y1))) (toNat a2_) (getD (set (set a1_ (toNat a2_) (getD a1_ (toNat a4_) ([] : Y1))) (toNat a4_) (getD a1_ (toNat a2_) ([] : Y1))) (toNat r24_) ([] : Y1))))))
 (.g (inR r24_ (length (set (set a1_ (toNat a2_) (getD a1_ (toNat a4_) ([] : Y1))) (toNat a4_) (getD a1_ (toNat a2_) ([] : Y1))))) <|
 .g (decide ((toNat r24_) < length (set (set a1_ (toNat a2_) (getD a1_ (toNat a4_) ([] : Y1))) (toNat a4_) (getD a1_ (toNat a2_) ([] : Y1))))) <|
 .g (inR r12_ (length (set (set a1_ (toNat a2_) (getD a1_ (toNat a4_) ([] : Y1))) (toNat a4_) (getD a1_ (toNat a2_) ([] : Y1))))) <|
 .g (decide ((toNat r12_) < length (set (set a1_ (toNat a2_) (getD a1_ (toNat a4_) ([] : Y1))) (toNat a4_) (getD a1_ (toNat a2_) ([] : Y1))))) <|
 .g (inR r12_ (length (set (set a1_ (toNat a2_) (getD a1_ (toNat a4_) ([] : Y1))) (toNat a4_) (getD a1_ (toNat a2_) ([] : Y1))))) <|
 .g (decide ((toNat r12_) < length (set (set a1_ (toNat a2_) (getD a1_ (toNat a4_) ([] : Y1))) (toNat a4_) (getD a1_ (toNat a2_) ([] : Y1))))) <|
 .g (inR r24_ (length (set (set (set a1_ (toNat a2_) (getD a1_ (toNat a4_) ([] : Y1))) (toNat a4_) (getD a1_ (toNat a2_) ([] : Y1))) (toNat r12_) (getD (set (set a1_ (toNat a2_) (getD a1_ (toNat a4_) ([] : Y1))) (toNat a4_) (getD a1_ (toNat a2_) ([] : Y1))) (toNat r24_) ([] : Y1))))) <|
 .g (decide ((toNat r24_) < length (set (set (set a1_ (toNat a2_) (getD a1_ (toNat a4_) ([] : Y1))) (toNat a4_) (getD a1_ (toNat a2_) ([] : Y1))) (toNat r12_) (getD (set (set a1_ (toNat a2_) (getD a1_ (toNat a4_) ([] : Y1))) (toNat a4_) (getD a1_ (toNat a2_) ([] : Y1))) (toNat r24_) ([] : Y1))))) <|
 .c Ym (wvk (a2_, a5_) ((wrap .i64 (r12_ + 1)), ((wrap .i64 (r24_ - 1)), (set (set (set (set a1_ (toNat a2_) (getD a1_ (toNat a4_) ([] : Y1))) (toNat a4_) (getD a1_ (toNat a2_) ([] : Y1))) (toNat r12_) (getD (set (set a1_ (toNat a2_) (getD a1_ (toNat a4_) ([] : Y1))) (toNat a4_) (getD a1_ (toNat a2_) ([] : Y1))) (toNat r24_) ([] : Y1))) (toNat r24_) (getD (set (set a1_ (toNat a2_) (getD a1_ (toNat a4_) ([] : Y1))) (toNat a4_) (getD a1_ (toNat a2_) ([] : Y1))) (toNat r12_) ([] : Y1)))))) fun r57_ =>
 .g (inR a2_ (length r57_.2)) <|
 .g (decide ((toNat a2_) < length r57_.2)) <|
 .g (inR r57_.1 (length r57_.2)) <|
 .g (decide ((toNat r57_.1) < length r57_.2)) <|
 .g (inR r57_.1 (length r57_.2)) <|
 .g (decide ((toNat r57_.1) < length r57_.2)) <|
 .g (inR a2_ (length (set r57_.2 (toNat r57_.1) (getD r57_.2 (toNat a2_) ([] : Y1))))) <|
 .g (decide ((toNat a2_) < length (set r57_.2 (toNat r57_.1) (getD r57_.2 (toNat a2_) ([] : Y1))))) <|
 .l (r57_.1, (false, (set (set r57_.2 (toNat r57_.1) (getD r57_.2 (toNat a2_) ([] : Y1))) (toNat a2_) (getD r57_.2 (toNat r57_.1) ([] : Y1))))))
noncomputable def wfx (a2_ : Int) (a3_ : Int) (a4_ : Int) (a5_ : Yd) (a1_ : List Y1) : Option Yi := (wanw a2_ a3_ a4_ a5_ a1_).ev
noncomputable def wbns : RetK := { acts := [], res := [.tmp 10, .tmp 11], sh := (yj [.dat yi, .dat .bool]), obs := [Zk], pins := [(0, 0, 64)] }
noncomputable def waxv : FD := yd (yj [.arr 64, .dat yi, .dat yi, .dat yi, .clo [y1, y1] yi]) [Zk] [.arg 0] Yi (fun x => wfx x.1.2.1 x.1.2.2.1 x.1.2.2.2.1 x.1.2.2.2.2.1 x.2.1) (fun r => ([.dat yi r.1, .dat .bool r.2.1], [(64, .arr 22 y1 r.2.2)]))
noncomputable def wvl : Env := wac []
noncomputable def wvm : List (Nat × LD) := [(0, wyw), (2, wyx), (6, wyy), (8, wyz), (4, wza)]
noncomputable def wvn : Code := (f136.body).getD .skip
noncomputable def wpp (rec_ : (Int) → (Int) → (Int) → (Yd) → Y2 → Option Y2) (k : Yd) (v : Int × Yq) : Tr ((Int × Yq) ⊕ Y2) :=
 .t (decide ((wrap .i64 (v.2.1 - v.1)) ≤ (12 : Int)))
 (.c Y2 (wang v.1 v.2.1 k v.2.2.2.2.2) fun r8_ =>
 .l (.inr r8_))
 (.t (v.2.2.1 == 0)
 (.f)
 (.t (!v.2.2.2.1)
 (.c Y2 (wanp v.1 v.2.1 k v.2.2.2.2.2) fun r9_ =>
 .c Ye (wagg r9_ v.1 v.2.1 k) fun r10_ =>
 .t (r10_.2 == 2)
 (.f)
 (.t v.2.2.2.1
 (.t v.2.2.2.2.1
 (.t (r10_.2 == 1)
 (.f)
 (.t (decide (0 < v.1))
 (.g (inR (wrap .i64 (v.1 - 1)) (length r9_)) <|
 .g (decide ((toNat (wrap .i64 (v.1 - 1))) < length r9_)) <|
 .g (inR r10_.1 (length r9_)) <|
 .g (decide ((toNat r10_.1) < length r9_)) <|
 .c (Int) (k ((getD r9_ (toNat (wrap .i64 (v.1 - 1))) ([] : Y1)), ((getD r9_ (toNat r10_.1) ([] : Y1)), ()))) fun r11_ =>
 .t (!(decide (r11_ < 0)))
 (.f)
 (.c Yi (wfx v.1 v.2.1 r10_.1 k r9_) fun r12_ =>
 .g (!decide ((8 : Int) = 0)) <|
 .t (decide ((wrap .i64 (r12_.1 - v.1)) < (wrap .i64 (v.2.1 - r12_.1))))
 (.c Y2 (rec_ v.1 r12_.1 (wrap .i64 (v.2.2.1 - 1)) k r12_.2.2) fun r13_ =>
 .l (.inl ((wrap .i64 (r12_.1 + 1)), (v.2.1, ((wrap .i64 (v.2.2.1 - 1)), ((decide ((wrap .i64 (Int.tdiv (wrap .i64 (v.2.1 - v.1)) (8 : Int))) ≤ (wrap .i64 (r12_.1 - v.1)))), (r12_.2.1, r13_)))))))
 (.c Y2 (rec_ (wrap .i64 (r12_.1 + 1)) v.2.1 (wrap .i64 (v.2.2.1 - 1)) k r12_.2.2) fun r14_ =>
 .l (.inl (v.1, (r12_.1, ((wrap .i64 (v.2.2.1 - 1)), ((decide ((wrap .i64 (Int.tdiv (wrap .i64 (v.2.1 - v.1)) (8 : Int))) ≤ (wrap .i64 (v.2.1 - r12_.1)))), (r12_.2.1, r14_)))))))))
 (.c Yi (wfx v.1 v.2.1 r10_.1 k r9_) fun r15_ =>
 .g (!decide ((8 : Int) = 0)) <|
 .t (decide ((wrap .i64 (r15_.1 - v.1)) < (wrap .i64 (v.2.1 - r15_.1))))
 (.c Y2 (rec_ v.1 r15_.1 (wrap .i64 (v.2.2.1 - 1)) k r15_.2.2) fun r16_ =>
 .l (.inl ((wrap .i64 (r15_.1 + 1)), (v.2.1, ((wrap .i64 (v.2.2.1 - 1)), ((decide ((wrap .i64 (Int.tdiv (wrap .i64 (v.2.1 - v.1)) (8 : Int))) ≤ (wrap .i64 (r15_.1 - v.1)))), (r15_.2.1, r16_)))))))
 (.c Y2 (rec_ (wrap .i64 (r15_.1 + 1)) v.2.1 (wrap .i64 (v.2.2.1 - 1)) k r15_.2.2) fun r17_ =>
 .l (.inl (v.1, (r15_.1, ((wrap .i64 (v.2.2.1 - 1)), ((decide ((wrap .i64 (Int.tdiv (wrap .i64 (v.2.1 - v.1)) (8 : Int))) ≤ (wrap .i64 (v.2.1 - r15_.1)))), (r15_.2.1, r17_))))))))))
 (.t (decide (0 < v.1))
 (.g (inR (wrap .i64 (v.1 - 1)) (length r9_)) <|
 .g (decide ((toNat (wrap .i64 (v.1 - 1))) < length r9_)) <|
 .g (inR r10_.1 (length r9_)) <|
 .g (decide ((toNat r10_.1) < length r9_)) <|
 .c (Int) (k ((getD r9_ (toNat (wrap .i64 (v.1 - 1))) ([] : Y1)), ((getD r9_ (toNat r10_.1) ([] : Y1)), ()))) fun r18_ =>
 .t (!(decide (r18_ < 0)))
 (.f)
 (.c Yi (wfx v.1 v.2.1 r10_.1 k r9_) fun r19_ =>
 .g (!decide ((8 : Int) = 0)) <|
 .t (decide ((wrap .i64 (r19_.1 - v.1)) < (wrap .i64 (v.2.1 - r19_.1))))
 (.c Y2 (rec_ v.1 r19_.1 (wrap .i64 (v.2.2.1 - 1)) k r19_.2.2) fun r20_ =>
 .l (.inl ((wrap .i64 (r19_.1 + 1)), (v.2.1, ((wrap .i64 (v.2.2.1 - 1)), ((decide ((wrap .i64 (Int.tdiv (wrap .i64 (v.2.1 - v.1)) (8 : Int))) ≤ (wrap .i64 (r19_.1 - v.1)))), (r19_.2.1, r20_)))))))
 (.c Y2 (rec_ (wrap .i64 (r19_.1 + 1)) v.2.1 (wrap .i64 (v.2.2.1 - 1)) k r19_.2.2) fun r21_ =>
 .l (.inl (v.1, (r19_.1, ((wrap .i64 (v.2.2.1 - 1)), ((decide ((wrap .i64 (Int.tdiv (wrap .i64 (v.2.1 - v.1)) (8 : Int))) ≤ (wrap .i64 (v.2.1 - r19_.1)))), (r19_.2.1, r21_)))))))))
 (.c Yi (wfx v.1 v.2.1 r10_.1 k r9_) fun r22_ =>
 .g (!decide ((8 : Int) = 0)) <|
 .t (decide ((wrap .i64 (r22_.1 - v.1)) < (wrap .i64 (v.2.1 - r22_.1))))
 (.c Y2 (rec_ v.1 r22_.1 (wrap .i64 (v.2.2.1 - 1)) k r22_.2.2) fun r23_ =>
 .l (.inl ((wrap .i64 (r22_.1 + 1)), (v.2.1, ((wrap .i64 (v.2.2.1 - 1)), ((decide ((wrap .i64 (Int.tdiv (wrap .i64 (v.2.1 - v.1)) (8 : Int))) ≤ (wrap .i64 (r22_.1 - v.1)))), (r22_.2.1, r23_)))))))
 (.c Y2 (rec_ (wrap .i64 (r22_.1 + 1)) v.2.1 (wrap .i64 (v.2.2.1 - 1)) k r22_.2.2) fun r24_ =>
 .l (.inl (v.1, (r22_.1, ((wrap .i64 (v.2.2.1 - 1)), ((decide ((wrap .i64 (Int.tdiv (wrap .i64 (v.2.1 - v.1)) (8 : Int))) ≤ (wrap .i64 (v.2.1 - r22_.1)))), (r22_.2.1, r24_))))))))))
 (.t (decide (0 < v.1))
 (.g (inR (wrap .i64 (v.1 - 1)) (length r9_)) <|
 .g (decide ((toNat (wrap .i64 (v.1 - 1))) < length r9_)) <|
 .g (inR r10_.1 (length r9_)) <|
 .g (decide ((toNat r10_.1) < length r9_)) <|
 .c (Int) (k ((getD r9_ (toNat (wrap .i64 (v.1 - 1))) ([] : Y1)), ((getD r9_ (toNat r10_.1) ([] : Y1)), ()))) fun r25_ =>
 .t (!(decide (r25_ < 0)))
 (.f)
 (.c Yi (wfx v.1 v.2.1 r10_.1 k r9_) fun r26_ =>
 .g (!decide ((8 : Int) = 0)) <|
 .t (decide ((wrap .i64 (r26_.1 - v.1)) < (wrap .i64 (v.2.1 - r26_.1))))
 (.c Y2 (rec_ v.1 r26_.1 (wrap .i64 (v.2.2.1 - 1)) k r26_.2.2) fun r27_ =>
 .l (.inl ((wrap .i64 (r26_.1 + 1)), (v.2.1, ((wrap .i64 (v.2.2.1 - 1)), ((decide ((wrap .i64 (Int.tdiv (wrap .i64 (v.2.1 - v.1)) (8 : Int))) ≤ (wrap .i64 (r26_.1 - v.1)))), (r26_.2.1, r27_)))))))
 (.c Y2 (rec_ (wrap .i64 (r26_.1 + 1)) v.2.1 (wrap .i64 (v.2.2.1 - 1)) k r26_.2.2) fun r28_ =>
 .l (.inl (v.1, (r26_.1, ((wrap .i64 (v.2.2.1 - 1)), ((decide ((wrap .i64 (Int.tdiv (wrap .i64 (v.2.1 - v.1)) (8 : Int))) ≤ (wrap .i64 (v.2.1 - r26_.1)))), (r26_.2.1, r28_)))))))))
 (.c Yi (wfx v.1 v.2.1 r10_.1 k r9_) fun r29_ =>
 .g (!decide ((8 : Int) = 0)) <|
 .t (decide ((wrap .i64 (r29_.1 - v.1)) < (wrap .i64 (v.2.1 - r29_.1))))
 (.c Y2 (rec_ v.1 r29_.1 (wrap .i64 (v.2.2.1 - 1)) k r29_.2.2) fun r30_ =>
 .l (.inl ((wrap .i64 (r29_.1 + 1)), (v.2.1, ((wrap .i64 (v.2.2.1 - 1)), ((decide ((wrap .i64 (Int.tdiv (wrap .i64 (v.2.1 - v.1)) (8 : Int))) ≤ (wrap .i64 (r29_.1 - v.1)))), (r29_.2.1, r30_)))))))
 (.c Y2 (rec_ (wrap .i64 (r29_.1 + 1)) v.2.1 (wrap .i64 (v.2.2.1 - 1)) k r29_.2.2) fun r31_ =>
 .l (.inl (v.1, (r29_.1, ((wrap .i64 (v.2.2.1 - 1)), ((decide ((wrap .i64 (Int.tdiv (wrap .i64 (v.2.1 - v.1)) (8 : Int))) ≤ (wrap .i64 (v.2.1 - r29_.1)))), (r29_.2.1, r31_)))))))))))
 (.c Ye (wagg v.2.2.2.2.2 v.1 v.2.1 k) fun r32_ =>
 .t (r32_.2 == 2)
 (.f)
 (.t v.2.2.2.1
 (.t v.2.2.2.2.1
 (.t (r32_.2 == 1)
 (.f)
 (.t (decide (0 < v.1))
 (.g (inR (wrap .i64 (v.1 - 1)) (length v.2.2.2.2.2)) <|
 .g (decide ((toNat (wrap .i64 (v.1 - 1))) < length v.2.2.2.2.2)) <|
 .g (inR r32_.1 (length v.2.2.2.2.2)) <|
 .g (decide ((toNat r32_.1) < length v.2.2.2.2.2)) <|
 .c (Int) (k ((getD v.2.2.2.2.2 (toNat (wrap .i64 (v.1 - 1))) ([] : Y1)), ((getD v.2.2.2.2.2 (toNat r32_.1) ([] : Y1)), ()))) fun r33_ =>
 .t (!(decide (r33_ < 0)))
 (.f)
 (.c Yi (wfx v.1 v.2.1 r32_.1 k v.2.2.2.2.2) fun r34_ =>
 .g (!decide ((8 : Int) = 0)) <|
 .t (decide ((wrap .i64 (r34_.1 - v.1)) < (wrap .i64 (v.2.1 - r34_.1))))
 (.c Y2 (rec_ v.1 r34_.1 v.2.2.1 k r34_.2.2) fun r35_ =>
 .l (.inl ((wrap .i64 (r34_.1 + 1)), (v.2.1, (v.2.2.1, ((decide ((wrap .i64 (Int.tdiv (wrap .i64 (v.2.1 - v.1)) (8 : Int))) ≤ (wrap .i64 (r34_.1 - v.1)))), (r34_.2.1, r35_)))))))
 (.c Y2 (rec_ (wrap .i64 (r34_.1 + 1)) v.2.1 v.2.2.1 k r34_.2.2) fun r36_ =>
 .l (.inl (v.1, (r34_.1, (v.2.2.1, ((decide ((wrap .i64 (Int.tdiv (wrap .i64 (v.2.1 - v.1)) (8 : Int))) ≤ (wrap .i64 (v.2.1 - r34_.1)))), (r34_.2.1, r36_)))))))))
 (.c Yi (wfx v.1 v.2.1 r32_.1 k v.2.2.2.2.2) fun r37_ =>
 .g (!decide ((8 : Int) = 0)) <|
 .t (decide ((wrap .i64 (r37_.1 - v.1)) < (wrap .i64 (v.2.1 - r37_.1))))
 (.c Y2 (rec_ v.1 r37_.1 v.2.2.1 k r37_.2.2) fun r38_ =>
 .l (.inl ((wrap .i64 (r37_.1 + 1)), (v.2.1, (v.2.2.1, ((decide ((wrap .i64 (Int.tdiv (wrap .i64 (v.2.1 - v.1)) (8 : Int))) ≤ (wrap .i64 (r37_.1 - v.1)))), (r37_.2.1, r38_)))))))
 (.c Y2 (rec_ (wrap .i64 (r37_.1 + 1)) v.2.1 v.2.2.1 k r37_.2.2) fun r39_ =>
 .l (.inl (v.1, (r37_.1, (v.2.2.1, ((decide ((wrap .i64 (Int.tdiv (wrap .i64 (v.2.1 - v.1)) (8 : Int))) ≤ (wrap .i64 (v.2.1 - r37_.1)))), (r37_.2.1, r39_))))))))))
 (.t (decide (0 < v.1))
 (.g (inR (wrap .i64 (v.1 - 1)) (length v.2.2.2.2.2)) <|
 .g (decide ((toNat (wrap .i64 (v.1 - 1))) < length v.2.2.2.2.2)) <|
 .g (inR r32_.1 (length v.2.2.2.2.2)) <|
 .g (decide ((toNat r32_.1) < length v.2.2.2.2.2)) <|
 .c (Int) (k ((getD v.2.2.2.2.2 (toNat (wrap .i64 (v.1 - 1))) ([] : Y1)), ((getD v.2.2.2.2.2 (toNat r32_.1) ([] : Y1)), ()))) fun r40_ =>
 .t (!(decide (r40_ < 0)))
 (.f)
 (.c Yi (wfx v.1 v.2.1 r32_.1 k v.2.2.2.2.2) fun r41_ =>
 .g (!decide ((8 : Int) = 0)) <|
 .t (decide ((wrap .i64 (r41_.1 - v.1)) < (wrap .i64 (v.2.1 - r41_.1))))
 (.c Y2 (rec_ v.1 r41_.1 v.2.2.1 k r41_.2.2) fun r42_ =>
 .l (.inl ((wrap .i64 (r41_.1 + 1)), (v.2.1, (v.2.2.1, ((decide ((wrap .i64 (Int.tdiv (wrap .i64 (v.2.1 - v.1)) (8 : Int))) ≤ (wrap .i64 (r41_.1 - v.1)))), (r41_.2.1, r42_)))))))
 (.c Y2 (rec_ (wrap .i64 (r41_.1 + 1)) v.2.1 v.2.2.1 k r41_.2.2) fun r43_ =>
 .l (.inl (v.1, (r41_.1, (v.2.2.1, ((decide ((wrap .i64 (Int.tdiv (wrap .i64 (v.2.1 - v.1)) (8 : Int))) ≤ (wrap .i64 (v.2.1 - r41_.1)))), (r41_.2.1, r43_)))))))))
 (.c Yi (wfx v.1 v.2.1 r32_.1 k v.2.2.2.2.2) fun r44_ =>
 .g (!decide ((8 : Int) = 0)) <|
 .t (decide ((wrap .i64 (r44_.1 - v.1)) < (wrap .i64 (v.2.1 - r44_.1))))
 (.c Y2 (rec_ v.1 r44_.1 v.2.2.1 k r44_.2.2) fun r45_ =>
 .l (.inl ((wrap .i64 (r44_.1 + 1)), (v.2.1, (v.2.2.1, ((decide ((wrap .i64 (Int.tdiv (wrap .i64 (v.2.1 - v.1)) (8 : Int))) ≤ (wrap .i64 (r44_.1 - v.1)))), (r44_.2.1, r45_)))))))
 (.c Y2 (rec_ (wrap .i64 (r44_.1 + 1)) v.2.1 v.2.2.1 k r44_.2.2) fun r46_ =>
 .l (.inl (v.1, (r44_.1, (v.2.2.1, ((decide ((wrap .i64 (Int.tdiv (wrap .i64 (v.2.1 - v.1)) (8 : Int))) ≤ (wrap .i64 (v.2.1 - r44_.1)))), (r44_.2.1, r46_))))))))))
 (.t (decide (0 < v.1))
 (.g (inR (wrap .i64 (v.1 - 1)) (length v.2.2.2.2.2)) <|
 .g (decide ((toNat (wrap .i64 (v.1 - 1))) < length v.2.2.2.2.2)) <|
 .g (inR r32_.1 (length v.2.2.2.2.2)) <|
 .g (decide ((toNat r32_.1) < length v.2.2.2.2.2)) <|
 .c (Int) (k ((getD v.2.2.2.2.2 (toNat (wrap .i64 (v.1 - 1))) ([] : Y1)), ((getD v.2.2.2.2.2 (toNat r32_.1) ([] : Y1)), ()))) fun r47_ =>
 .t (!(decide (r47_ < 0)))
 (.f)
 (.c Yi (wfx v.1 v.2.1 r32_.1 k v.2.2.2.2.2) fun r48_ =>
 .g (!decide ((8 : Int) = 0)) <|
 .t (decide ((wrap .i64 (r48_.1 - v.1)) < (wrap .i64 (v.2.1 - r48_.1))))
 (.c Y2 (rec_ v.1 r48_.1 v.2.2.1 k r48_.2.2) fun r49_ =>
 .l (.inl ((wrap .i64 (r48_.1 + 1)), (v.2.1, (v.2.2.1, ((decide ((wrap .i64 (Int.tdiv (wrap .i64 (v.2.1 - v.1)) (8 : Int))) ≤ (wrap .i64 (r48_.1 - v.1)))), (r48_.2.1, r49_)))))))
 (.c Y2 (rec_ (wrap .i64 (r48_.1 + 1)) v.2.1 v.2.2.1 k r48_.2.2) fun r50_ =>
 .l (.inl (v.1, (r48_.1, (v.2.2.1, ((decide ((wrap .i64 (Int.tdiv (wrap .i64 (v.2.1 - v.1)) (8 : Int))) ≤ (wrap .i64 (v.2.1 - r48_.1)))), (r48_.2.1, r50_)))))))))
 (.c Yi (wfx v.1 v.2.1 r32_.1 k v.2.2.2.2.2) fun r51_ =>
 .g (!decide ((8 : Int) = 0)) <|
 .t (decide ((wrap .i64 (r51_.1 - v.1)) < (wrap .i64 (v.2.1 - r51_.1))))
 (.c Y2 (rec_ v.1 r51_.1 v.2.2.1 k r51_.2.2) fun r52_ =>
 .l (.inl ((wrap .i64 (r51_.1 + 1)), (v.2.1, (v.2.2.1, ((decide ((wrap .i64 (Int.tdiv (wrap .i64 (v.2.1 - v.1)) (8 : Int))) ≤ (wrap .i64 (r51_.1 - v.1)))), (r51_.2.1, r52_)))))))
 (.c Y2 (rec_ (wrap .i64 (r51_.1 + 1)) v.2.1 v.2.2.1 k r51_.2.2) fun r53_ =>
 .l (.inl (v.1, (r51_.1, (v.2.2.1, ((decide ((wrap .i64 (Int.tdiv (wrap .i64 (v.2.1 - v.1)) (8 : Int))) ≤ (wrap .i64 (v.2.1 - r51_.1)))), (r51_.2.1, r53_)))))))))))))
noncomputable def wvo (rec_ : (Int) → (Int) → (Int) → (Yd) → Y2 → Option Y2) (k : Yd) (v : Int × Yq) : Option Y2 := iter (fun v => (wpp rec_ k v).ev) v
noncomputable def wzb (rec_ : (Int) → (Int) → (Int) → (Yd) → Y2 → Option Y2) : LD where
 head := { acts := [], S := { slots := [0, 1, 2, 3, 4, 10, 11], sh := (yj [.arr 64, .dat yi, .dat yi, .dat yi, .clo [y1, y1] yi, .dat .bool, .dat .bool]), obs := [Zk] } }
 exits := []
 rets := { acts := [], S := { slots := [0], sh := Zx, obs := [Zk] } }
 K := Yd
 V := Int × Yq
 R := List Y1
 join := fun k v => (((), (v.1, (v.2.1, (v.2.2.1, (k, (v.2.2.2.1, (v.2.2.2.2.1, ()))))))), (v.2.2.2.2.2, ()))
 sk := fun t => t.1.2.2.2.2.1
 sv := fun t => (t.1.2.1, (t.1.2.2.1, (t.1.2.2.2.1, (t.1.2.2.2.2.2.1, (t.1.2.2.2.2.2.2.1, t.2.1)))))
 step := wpp rec_
 leaf := fun _ r => .l (.ret (wbd ({ slots := [0], sh := Zx, obs := [Zk] }) (((), ()), (r, ()))))
noncomputable def wanx (rec_ : (Int) → (Int) → (Int) → (Yd) → Y2 → Option Y2) (a2_ : Int) (a3_ : Int) (a4_ : Int) (a5_ : Yd) (a1_ : List Y1) : Tr Y2 :=
 .c Y2 (wvo rec_ a5_ (a2_, (a3_, (a4_, (true, (true, a1_)))))) fun r55_ =>
 .l r55_
noncomputable def wpq : Nat → (Int) → (Int) → (Int) → (Yd) → Y2 → Option Y2
 | 0 => fun _ _ _ _ _ => none
 | n + 1 => fun a2_ a3_ a4_ a5_ a1_ => (wanx (wpq n) a2_ a3_ a4_ a5_ a1_).ev
noncomputable def wbnt : RetK := { acts := [], res := [], sh := .nil, obs := [Zk], pins := [(0, 0, 64)] }
noncomputable def warn (rec_ : (Int) → (Int) → (Int) → (Yd) → Y2 → Option Y2) : FD where
 A := (yj [.arr 64, .dat yi, .dat yi, .dat yi, .clo [y1, y1] yi])
 ins := [Zk]
 lend := [.arg 0]
 R := List Y1
 F := fun x => rec_ x.1.2.1 x.1.2.2.1 x.1.2.2.2.1 x.1.2.2.2.2.1 x.2.1
 emb := fun r => ([], [(64, .arr 22 y1 r)])
noncomputable def waxw (n : Nat) : FD := warn (wpq n)
noncomputable def waxx (rec_ : (Int) → (Int) → (Int) → (Yd) → Y2 → Option Y2) : Env := wac [(129, waxl), (131, waxo), (132, waxu), (136, waxv), (111, warn rec_)]
noncomputable def waxy (rec_ : (Int) → (Int) → (Int) → (Yd) → Y2 → Option Y2) : List (Nat × LD) := [(0, wzb rec_)]
noncomputable def waxz : Code := (f111.body).getD .skip
noncomputable def wany (a2_ : Yd) (a1_ : List Y1) : Tr Y2 :=
 .c (Int) (wagf (wrap .u64 ((length a1_ : Nat) : Int))) fun r1_ =>
 .c Y2 (wpq 1000000 (0 : Int) ((length a1_ : Nat) : Int) r1_ a2_ a1_) fun r2_ =>
 .l r2_
noncomputable def wanz (a2_ : Yd) (a1_ : List Y1) : Option Y2 := (wany a2_ a1_).ev
noncomputable def wbnu : RetK := { acts := [], res := [], sh := .nil, obs := [Zk], pins := [(0, 0, 64)] }
noncomputable def waoa : FD := yd (yj [.arr 64, .clo [y1, y1] yi]) [Zk] [.arg 0] (List Y1) (fun x => wanz x.1.2.1 x.2.1) (fun r => ([], [(64, .arr 22 y1 r)]))
noncomputable def T_zc (a1_ : Int) : Tr (Bool) :=
 .l (a1_ != a1_)
noncomputable def F_zc (a1_ : Int) : Option (Bool) := (T_zc a1_).ev
noncomputable def K_zc : RetK := yr [.tmp 2] Zj
noncomputable def D_zc : FD := yd Zf [] [] Bool (fun x => F_zc x.1.1) (fun r => ([.dat .bool r], []))
noncomputable def T_za (a1_ : Int) (a2_ : Int) : Tr (Int) :=
 .c (Bool) (F_zc a1_) fun r1_ =>
 .c (Bool) (F_zc a2_) fun r2_ =>
 .t r1_
 (.t r2_
 (.l (0 : Int))
 (.l (-1 : Int)))
 (.t r2_
 (.l (1 : Int))
 (.t (decide (a1_ < a2_))
 (.l (-1 : Int))
 (.t (decide (a2_ < a1_))
 (.l (1 : Int))
 (.l (0 : Int)))))
noncomputable def F_za (a1_ : Int) (a2_ : Int) : Option (Int) := (T_za a1_ a2_).ev
noncomputable def K_za : RetK := yr [.tmp 4] Zf
noncomputable def D_za : FD := yd Zt [] [] Int (fun x => F_za x.1.1 x.1.2.1) (fun r => ([.dat yi r], []))
noncomputable def wpr (k : Y1 × (Y1 × (Y1 × Int))) (v : Int) : Tr ((Int) ⊕ ((Unit) ⊕ (Int))) :=
 .t (decide (v < k.2.2.2))
 (.g (inR v (length k.2.2.1)) <|
 .t (decide (((length k.2.1 : Nat) : Int) ≤ v))
 (.l (.inr (.inr (1 : Int))))
 (.g (inR v (length k.2.1)) <|
 .c (Int) (F_za (getD k.2.2.1 (toNat v) 0) (getD k.2.1 (toNat v) 0)) fun r6_ =>
 .t (r6_ != (0 : Int))
 (.l (.inr (.inr r6_)))
 (.l (.inl (wrap .i64 (v + 1))))))
 (.l (.inr (.inl ())))
noncomputable def wvp (k : Y1 × (Y1 × (Y1 × Int))) (v : Int) : Option ((Unit) ⊕ (Int)) := iter (fun v => (wpr k v).ev) v
noncomputable def wzc : LD := ⟨(yh [0, 1, 9, 10, 11] (yj [.dat y1, .dat y1, .dat y1, .dat yi, .dat yi])), [(0, (yh [0, 1] (yj [.dat y1, .dat y1])))], (yh [4] Zf), Y1 × (Y1 × (Y1 × Int)), Int, (Unit) ⊕ (Int), fun k v => ((k.1, (k.2.1, (k.2.2.1, (k.2.2.2, (v, ()))))), ()), fun t => (t.1.1, (t.1.2.1, (t.1.2.2.1, t.1.2.2.2.1))), fun t => t.1.2.2.2.2.1, wpr, fun k r => .s (Unit) (Int) r (fun _ => .l (.exit 0 (wbd ((ys [0, 1] (yj [.dat y1, .dat y1]))) ((k.1, (k.2.1, ())), ())))) (fun b => .l (.ret (wbd ((ys [4] Zf)) ((b, ()), ()))))⟩
noncomputable def waoc (a1_ : Y1) (a2_ : Y1) : Tr (Int) :=
 .c ((Unit) ⊕ (Int)) (wvp (a1_, (a2_, (a1_, ((length a1_ : Nat) : Int)))) (0 : Int)) fun r10_ =>
 .s (Unit) (Int) r10_
 (fun _ => .t (decide (((length a1_ : Nat) : Int) < ((length a2_ : Nat) : Int)))
 (.l (-1 : Int))
 (.l (0 : Int)))
 (fun r12_ => .l r12_)
noncomputable def waod (a1_ : Y1) (a2_ : Y1) : Option (Int) := (waoc a1_ a2_).ev
noncomputable def wbnw : RetK := yr [.tmp 4] Zf
noncomputable def wayb : FD := yd (yj [.dat y1, .dat y1]) [] [] Int (fun x => waod x.1.1 x.1.2.1) (fun r => ([.dat yi r], []))
noncomputable def wayc : Env := wac [(66, D_za)]
noncomputable def wayd : List (Nat × LD) := [(0, wzc)]
noncomputable def waye : Code := (f113.body).getD .skip
noncomputable def wdj (k : Int × (Y1 × Int)) (v : Int) : Tr ((Int) ⊕ ((Unit) ⊕ (Int))) :=
 .t (decide (v < k.2.2))
 (.g (inR v (length k.2.1)) <|
 .t ((getD k.2.1 (toNat v) 0) != k.1)
 (.l (.inr (.inr (getD k.2.1 (toNat v) 0))))
 (.l (.inl (wrap .i64 (v + 1)))))
 (.l (.inr (.inl ())))
noncomputable def wzd (k : Int × (Y1 × Int)) (v : Int) : Option ((Unit) ⊕ (Int)) := iter (fun v => (wdj k v).ev) v
noncomputable def wagh : LD := ⟨(yh [3, 6, 7, 8] (yj [.dat yi, .dat y1, .dat yi, .dat yi])), [(0, (yh [3] Zf))], (yh [2] Zf), Int × (Y1 × Int), Int, (Unit) ⊕ (Int), fun k v => ((k.1, (k.2.1, (k.2.2, (v, ())))), ()), fun t => (t.1.1, (t.1.2.1, t.1.2.2.1)), fun t => t.1.2.2.2.1, wdj, fun k r => .s (Unit) (Int) r (fun _ => .l (.exit 0 (wbd ((ys [3] Zf)) ((k.1, ()), ())))) (fun b => .l (.ret (wbd ((ys [2] Zf)) ((b, ()), ()))))⟩
noncomputable def T_zb (a1_ : Y1) : Tr (Int) :=
 .c ((Unit) ⊕ (Int)) (wzd ((0 : Int), (a1_, ((length a1_ : Nat) : Int))) (0 : Int)) fun r7_ =>
 .s (Unit) (Int) r7_
 (fun _ => .l (0 : Int))
 (fun r9_ => .l r9_)
noncomputable def F_zb (a1_ : Y1) : Option (Int) := (T_zb a1_).ev
noncomputable def K_zb : RetK := yr [.tmp 2] Zf
noncomputable def D_zb : FD := yd (yj [.dat y1]) [] [] Int (fun x => F_zb x.1.1) (fun r => ([.dat yi r], []))
noncomputable def E_zb : Env := wac []
noncomputable def O_zb : List (Nat × LD) := [(0, wagh)]
noncomputable def C_zb : Code := (f65.body).getD .skip
noncomputable def T_zv (a1_ : Y1) (a2_ : Y1) : Tr (Int) :=
 .c (Int) (F_za ((length a1_ : Nat) : Int) ((length a2_ : Nat) : Int)) fun r1_ =>
 .c (Int) (waod a1_ a2_) fun r2_ =>
 .c (Int) (F_zb ([r1_, r2_] : Y1)) fun r3_ =>
 .l r3_
noncomputable def F_zv (a1_ : Y1) (a2_ : Y1) : Option (Int) := (T_zv a1_ a2_).ev
noncomputable def K_zv : RetK := yr [.tmp 4] Zf
noncomputable def D_zv : FD := yd (yj [.dat y1, .dat y1]) [] [] Int (fun x => F_zv x.1.1 x.1.2.1) (fun r => ([.dat yi r], []))
noncomputable def wze (k : Int) (v : Int × Y2) : Tr (Ym ⊕ Y2) :=
 .g (decide (0 ≤ k)) <|
 .t (decide (v.1 < (wrap .u64 ((1 : Int) * 2 ^ (min (toNat k) Zb)))))
 (.c Y1 (F_zt v.1) fun r4_ =>
 .g (decide ((length v.2 + length ([r4_] : List Y1)) * 24 ≤ 140737488355328)) <|
 .l (.inl ((wrap .u64 (v.1 + 1)), (v.2 ++ ([r4_] : List Y1)))))
 (.l (.inr v.2))
noncomputable def wagi (k : Int) (v : Int × Y2) : Option Y2 := iter (fun v => (wze k v).ev) v
noncomputable def wagj : LD := ⟨{ acts := [], S := { slots := [0, 3, 4], sh := (yj [.dat yi, .arr 5, .dat (.int .u64)]), obs := [(5, .arr 22 y1)] } }, [(0, { acts := [], S := { slots := [3], sh := (yj [.arr 5]), obs := [(5, .arr 22 y1)] } })], (yh [] .nil), Int, Int × Y2, List Y1, fun k v => ((k, ((), (v.1, ()))), (v.2, ())), fun t => t.1.1, fun t => (t.1.2.2.1, t.2.1), wze, fun _ r => .l (.exit 0 (wbd ({ slots := [3], sh := (yj [.arr 5]), obs := [(5, .arr 22 y1)] }) (((), ()), (r, ()))))⟩
noncomputable def T_zy (a1_ : Int) : Tr Y2 :=
 .c Y2 (wagi a1_ ((1 : Int), ([] : List Y1))) fun r6_ =>
 .c Y2 (wanz (fun h7_ => Option.bind (F_zv h7_.1 h7_.2.1) fun y8_ => some y8_) r6_) fun r9_ =>
 .l r9_
noncomputable def F_zy (a1_ : Int) : Option Y2 := (T_zy a1_).ev
noncomputable def K_zy : RetK := { acts := [.ren 5 0], res := [.tmp 2], sh := (yj [.arr 0]), obs := [(0, .arr 22 y1)], pins := [] }
noncomputable def D_zy : FD := yd Zf [] [] (List Y1) (fun x => F_zy x.1.1) (fun r => ([.arr 0], [(0, .arr 22 y1 r)]))
def Z_zy : Nat → Nat → List Nat := fun r i => match look [(5, [(3, [14])])] r with
 | some l => (look l i).getD []
 | none => []
noncomputable def E_zy : Env := wac [(90, D_zt), (91, waoa), (91, waoa), (92, D_zv)]
noncomputable def O_zy : List (Nat × LD) := [(0, wagj)]
noncomputable def C_zy : Code := (f61.body).getD .skip
noncomputable def wsn (k : Int × (Y1 × (Int × Yr))) (v : Int × Int) : Tr (Ye ⊕ (Int)) :=
 .t (decide (v.2 < k.2.2.1))
 (.g (inR v.2 (length k.2.1)) <|
 .g (inR k.1 (length k.2.2.2.2)) <|
 .g (inR (getD k.2.1 (toNat v.2) 0) (length (getD k.2.2.2.2 (toNat k.1) ([] : Y1)))) <|
 .g (inR k.1 (length k.2.2.2.2)) <|
 .g (inR v.1 (length (getD k.2.2.2.2 (toNat k.1) ([] : Y1)))) <|
 .t (decide ((getD (getD k.2.2.2.2 (toNat k.1) ([] : Y1)) (toNat (getD k.2.1 (toNat v.2) 0)) (0 : Int)) < (getD (getD k.2.2.2.2 (toNat k.1) ([] : Y1)) (toNat v.1) (0 : Int))))
 (.l (.inl ((getD k.2.1 (toNat v.2) 0), (wrap .i64 (v.2 + 1)))))
 (.l (.inl (v.1, (wrap .i64 (v.2 + 1))))))
 (.l (.inr v.1))
noncomputable def waro (k : Int × (Y1 × (Int × Yr))) (v : Int × Int) : Option (Int) := iter (fun v => (wsn k v).ev) v
noncomputable def wagk : LD := ⟨{ acts := [], S := { slots := [1, 3, 7, 13, 14, 15], sh := (yj [.dat yi, .box 3 0, .dat yi, .dat y1, .dat yi, .dat yi]), obs := [(3, .cells Zg)] } }, [(0, (yh [7] Zf))], (yh [] .nil), Int × (Y1 × (Int × Yr)), Int × (Int), Int, fun k v => ((k.1, ((), (v.1, (k.2.1, (k.2.2.1, (v.2, ())))))), ((k.2.2.2.1, (k.2.2.2.2, ())), ())), fun t => (t.1.1, (t.1.2.2.2.1, (t.1.2.2.2.2.1, (t.2.1.1, t.2.1.2.1)))), fun t => (t.1.2.2.1, t.1.2.2.2.2.2.1), wsn, fun _ r => .l (.exit 0 (wbd ((ys [7] Zf)) ((r, ()), ())))⟩
noncomputable def T_zj (a1_ : Y1) (a2_ : List Y1) (a3_ : Int) (a4_ : Y1) : Tr (Int) :=
 .g (inR 0 (length a4_)) <|
 .c (Int) (waro (a3_, (a4_, (((length a4_ : Nat) : Int), (a1_, a2_)))) ((getD a4_ (toNat 0) 0), (0 : Int))) fun r9_ =>
 .l r9_
noncomputable def F_zj (a1_ : Y1) (a2_ : List Y1) (a3_ : Int) (a4_ : Y1) : Option (Int) := (T_zj a1_ a2_ a3_ a4_).ev
noncomputable def K_zj : RetK := yr [.tmp 6] Zf
noncomputable def D_zj : FD := yd (yj [.agg Zg, .dat yi, .dat y1]) [] [] Int (fun x => F_zj x.1.1.1 x.1.1.2.1 x.1.2.1 x.1.2.2.1) (fun r => ([.dat yi r], []))
noncomputable def E_zj : Env := wac []
noncomputable def O_zj : List (Nat × LD) := [(0, wagk)]
noncomputable def C_zj : Code := (f152.body).getD .skip
noncomputable def wso (k : Y1 × (Int × Yr)) (v : Int × Y1) : Tr (Yv ⊕ Y1) :=
 .t (decide (v.1 < k.2.1))
 (.c (Int) (F_zj k.2.2.1 k.2.2.2 v.1 k.1) fun r7_ =>
 .g (decide ((length v.2 + length ([r7_] : Y1)) * 8 ≤ 140737488355328)) <|
 .l (.inl ((wrap .i64 (v.1 + 1)), (v.2 ++ ([r7_] : Y1)))))
 (.l (.inr v.2))
noncomputable def warp (k : Y1 × (Int × Yr)) (v : Int × Y1) : Option Y1 := iter (fun v => (wso k v).ev) v
noncomputable def wagl : LD := ⟨{ acts := [], S := { slots := [1, 2, 5, 10, 11], sh := (yj [.dat y1, .box 2 0, .arr 7, .dat yi, .dat yi]), obs := [(2, .cells Zg), (7, .arr 3 yi)] } }, [(0, { acts := [], S := { slots := [5], sh := (yj [.arr 7]), obs := [(7, .arr 3 yi)] } })], (yh [] .nil), Y1 × (Int × Yr), Int × Y1, Y1, fun k v => ((k.1, ((), ((), (k.2.1, (v.1, ()))))), ((k.2.2.1, (k.2.2.2, ())), (v.2, ()))), fun t => (t.1.1, (t.1.2.2.2.1, (t.2.1.1, t.2.1.2.1))), fun t => (t.1.2.2.2.2.1, t.2.2.1), wso, fun _ r => .l (.exit 0 (wbd ({ slots := [5], sh := (yj [.arr 7]), obs := [(7, .arr 3 yi)] }) (((), ()), (r, ()))))⟩
noncomputable def T_zi (a1_ : Y1) (a2_ : List Y1) (a3_ : Y1) : Tr Y1 :=
 .c Y1 (warp (a3_, (((length a2_ : Nat) : Int), (a1_, a2_))) ((0 : Int), ([] : Y1))) fun r9_ =>
 .l r9_
noncomputable def F_zi (a1_ : Y1) (a2_ : List Y1) (a3_ : Y1) : Option Y1 := (T_zi a1_ a2_ a3_).ev
noncomputable def K_zi : RetK := { acts := [.ren 7 0], res := [.tmp 4], sh := (yj [.arr 0]), obs := [(0, .arr 3 yi)], pins := [] }
noncomputable def D_zi : FD := yd (yj [.agg Zg, .dat y1]) [] [] Y1 (fun x => F_zi x.1.1.1 x.1.1.2.1 x.1.2.1) (fun r => ([.arr 0], [(0, .arr 3 yi r)]))
noncomputable def E_zi : Env := wac [(152, D_zj)]
noncomputable def O_zi : List (Nat × LD) := [(0, wagl)]
noncomputable def C_zi : Code := (f128.body).getD .skip
noncomputable def wsp (k : Int × (Y1 × (Y2 × Y1))) (v : Int × Y1) : Tr (Yv ⊕ Y1) :=
 .t (decide (v.1 < k.1))
 (.g (inR v.1 (length k.2.2.2)) <|
 .g (decide ((toNat v.1) < length k.2.2.2)) <|
 .g (inR v.1 (length k.2.2.1)) <|
 .g (inR (getD k.2.2.2 (toNat v.1) 0) (length (getD k.2.2.1 (toNat v.1) ([] : Y1)))) <|
 .g (decide ((length v.2 + length ([(getD (getD k.2.2.1 (toNat v.1) ([] : Y1)) (toNat (getD k.2.2.2 (toNat v.1) 0)) (0 : Int))] : Y1)) * 8 ≤ 140737488355328)) <|
 .l (.inl ((wrap .i64 (v.1 + 1)), (v.2 ++ ([(getD (getD k.2.2.1 (toNat v.1) ([] : Y1)) (toNat (getD k.2.2.2 (toNat v.1) 0)) (0 : Int))] : Y1)))))
 (.l (.inr v.2))
noncomputable def warq (k : Int × (Y1 × (Y2 × Y1))) (v : Int × Y1) : Option Y1 := iter (fun v => (wsp k v).ev) v
noncomputable def wagm : LD := ⟨{ acts := [], S := { slots := [2, 5, 11, 12, 13], sh := (yj [.box 2 0, .arr 8, .arr 704, .dat yi, .dat yi]), obs := [(2, .cells Zg), (8, .arr 3 yi), (704, .arr 3 yi)] } }, [(0, { acts := [], S := { slots := [5], sh := (yj [.arr 8]), obs := [(8, .arr 3 yi)] } })], (yh [] .nil), Int × (Y1 × (Y2 × Y1)), Int × Y1, Y1, fun k v => (((), ((), ((), (k.1, (v.1, ()))))), ((k.2.1, (k.2.2.1, ())), (v.2, (k.2.2.2, ())))), fun t => (t.1.2.2.2.1, (t.2.1.1, (t.2.1.2.1, t.2.2.2.1))), fun t => (t.1.2.2.2.2.1, t.2.2.1), wsp, fun _ r => .l (.exit 0 (wbd ({ slots := [5], sh := (yj [.arr 8]), obs := [(8, .arr 3 yi)] }) (((), ()), (r, ()))))⟩
noncomputable def T_zf (a1_ : Y1) (a2_ : List Y1) (a3_ : Y1) : Tr Y1 :=
 .c Y1 (F_zi a1_ a2_ a3_) fun r1_ =>
 .c Y1 (warq (((length r1_ : Nat) : Int), (a1_, (a2_, r1_))) ((0 : Int), ([] : Y1))) fun r9_ =>
 .l r9_
noncomputable def F_zf (a1_ : Y1) (a2_ : List Y1) (a3_ : Y1) : Option Y1 := (T_zf a1_ a2_ a3_).ev
noncomputable def K_zf : RetK := { acts := [.ren 8 0], res := [.tmp 4], sh := (yj [.arr 0]), obs := [(0, .arr 3 yi)], pins := [] }
noncomputable def D_zf : FD := yd (yj [.agg Zg, .dat y1]) [] [] Y1 (fun x => F_zf x.1.1.1 x.1.1.2.1 x.1.2.1) (fun r => ([.arr 0], [(0, .arr 3 yi r)]))
noncomputable def E_zf : Env := wac [(128, D_zi)]
noncomputable def O_zf : List (Nat × LD) := [(0, wagm)]
noncomputable def C_zf : Code := (f108.body).getD .skip
noncomputable def wsq (k : Y1 × Int) (v : Int × Int) : Tr (Ye ⊕ (Int)) :=
 .t (decide (v.2 < k.2))
 (.g (inR v.2 (length k.1)) <|
 .l (.inl ((wrap .i64 (v.1 + (getD k.1 (toNat v.2) 0))), (wrap .i64 (v.2 + 1)))))
 (.l (.inr v.1))
noncomputable def warr (k : Y1 × Int) (v : Int × Int) : Option (Int) := iter (fun v => (wsq k v).ev) v
noncomputable def wagn : LD := ⟨(yh [3, 6, 7, 8] (yj [.dat yi, .dat y1, .dat yi, .dat yi])), [(0, (yh [3] Zf))], (yh [] .nil), Y1 × (Int), Int × (Int), Int, fun k v => ((v.1, (k.1, (k.2, (v.2, ())))), ()), fun t => (t.1.2.1, t.1.2.2.1), fun t => (t.1.1, t.1.2.2.2.1), wsq, fun _ r => .l (.exit 0 (wbd ((ys [3] Zf)) ((r, ()), ())))⟩
noncomputable def T_zz (a1_ : Y1) : Tr (Int) :=
 .c (Int) (warr (a1_, ((length a1_ : Nat) : Int)) ((0 : Int), (0 : Int))) fun r6_ =>
 .l r6_
noncomputable def F_zz (a1_ : Y1) : Option (Int) := (T_zz a1_).ev
noncomputable def K_zz : RetK := yr [.tmp 2] Zf
noncomputable def D_zz : FD := yd (yj [.dat y1]) [] [] Int (fun x => F_zz x.1.1) (fun r => ([.dat yi r], []))
noncomputable def E_zz : Env := wac []
noncomputable def O_zz : List (Nat × LD) := [(0, wagn)]
noncomputable def C_zz : Code := (f42.body).getD .skip
noncomputable def T_zk (a1_ : Y1) (a2_ : List Y1) (a3_ : Y1) : Tr (Int) :=
 .c Y1 (F_zf a1_ a2_ a3_) fun r1_ =>
 .c (Int) (F_zz r1_) fun r2_ =>
 .l r2_
noncomputable def F_zk (a1_ : Y1) (a2_ : List Y1) (a3_ : Y1) : Option (Int) := (T_zk a1_ a2_ a3_).ev
noncomputable def K_zk : RetK := yr [.tmp 4] Zf
noncomputable def D_zk : FD := yd (yj [.agg Zg, .dat y1]) [] [] Int (fun x => F_zk x.1.1.1 x.1.1.2.1 x.1.2.1) (fun r => ([.dat yi r], []))
noncomputable def wsr (k : Y1 × (Int × Yr)) (v : Int × Int) : Tr (Ye ⊕ (Int)) :=
 .t (decide (v.2 < k.2.1))
 (.g (inR v.2 (length k.1)) <|
 .g (inR (getD k.1 (toNat v.2) 0) (length k.2.2.1)) <|
 .l (.inl ((wrap .i64 (v.1 + (getD k.2.2.1 (toNat (getD k.1 (toNat v.2) 0)) (0 : Int)))), (wrap .i64 (v.2 + 1)))))
 (.l (.inr v.1))
noncomputable def wars (k : Y1 × (Int × Yr)) (v : Int × Int) : Option (Int) := iter (fun v => (wsr k v).ev) v
noncomputable def wago : LD := ⟨{ acts := [], S := { slots := [2, 5, 8, 9, 10], sh := (yj [.box 2 0, .dat yi, .dat y1, .dat yi, .dat yi]), obs := [(2, .cells Zg)] } }, [(0, (yh [5] Zf))], (yh [] .nil), Y1 × (Int × Yr), Int × (Int), Int, fun k v => (((), (v.1, (k.1, (k.2.1, (v.2, ()))))), ((k.2.2.1, (k.2.2.2, ())), ())), fun t => (t.1.2.2.1, (t.1.2.2.2.1, (t.2.1.1, t.2.1.2.1))), fun t => (t.1.2.1, t.1.2.2.2.2.1), wsr, fun _ r => .l (.exit 0 (wbd ((ys [5] Zf)) ((r, ()), ())))⟩
noncomputable def T_zg (a1_ : Y1) (a2_ : List Y1) (a3_ : Y1) : Tr (Int) :=
 .c (Int) (wars (a3_, (((length a3_ : Nat) : Int), (a1_, a2_))) ((0 : Int), (0 : Int))) fun r8_ =>
 .l r8_
noncomputable def F_zg (a1_ : Y1) (a2_ : List Y1) (a3_ : Y1) : Option (Int) := (T_zg a1_ a2_ a3_).ev
noncomputable def K_zg : RetK := yr [.tmp 4] Zf
noncomputable def D_zg : FD := yd (yj [.agg Zg, .dat y1]) [] [] Int (fun x => F_zg x.1.1.1 x.1.1.2.1 x.1.2.1) (fun r => ([.dat yi r], []))
noncomputable def E_zg : Env := wac []
noncomputable def O_zg : List (Nat × LD) := [(0, wago)]
noncomputable def C_zg : Code := (f83.body).getD .skip
noncomputable def T_zl (a1_ : Y1) (a2_ : List Y1) (a3_ : Y1) : Tr (Int) :=
 .c (Int) (F_zg a1_ a2_ a3_) fun r1_ =>
 .c (Int) (F_zk a1_ a2_ a3_) fun r2_ =>
 .l (wrap .i64 (r1_ + r2_))
noncomputable def F_zl (a1_ : Y1) (a2_ : List Y1) (a3_ : Y1) : Option (Int) := (T_zl a1_ a2_ a3_).ev
noncomputable def K_zl : RetK := yr [.tmp 4] Zf
noncomputable def D_zl : FD := yd (yj [.agg Zg, .dat y1]) [] [] Int (fun x => F_zl x.1.1.1 x.1.1.2.1 x.1.2.1) (fun r => ([.dat yi r], []))
noncomputable def wib (k : Y1) (v : Int × Int) : Tr (Ye ⊕ (Int)) :=
 .t (decide (v.2 < ((length k : Nat) : Int)))
 (.g (inR v.2 (length k)) <|
 .l (.inl ((if v.1 < (getD k (toNat v.2) 0) then (getD k (toNat v.2) 0) else v.1), (wrap .i64 (v.2 + 1)))))
 (.l (.inr v.1))
noncomputable def wvq (k : Y1) (v : Int × Int) : Option (Int) := iter (fun v => (wib k v).ev) v
noncomputable def wzf : LD := ⟨(yh [0, 3, 4] (yj [.dat y1, .dat yi, .dat yi])), [(0, (yh [3] Zf))], (yh [] .nil), Y1, Int × (Int), Int, fun k v => ((k, (v.1, (v.2, ()))), ()), fun t => t.1.1, fun t => (t.1.2.1, t.1.2.2.1), wib, fun _ r => .l (.exit 0 (wbd ((ys [3] Zf)) ((r, ()), ())))⟩
noncomputable def wayg (a1_ : Y1) : Tr (Int) :=
 .t (decide (((length a1_ : Nat) : Int) < (1 : Int)))
 (.f)
 (.g (inR 0 (length a1_)) <|
 .c (Int) (wvq a1_ ((getD a1_ (toNat 0) 0), (1 : Int))) fun r5_ =>
 .l r5_)
noncomputable def waoe (a1_ : Y1) : Option (Int) := (wayg a1_).ev
noncomputable def wbpg : RetK := yr [.tmp 2] Zf
noncomputable def wayh : FD := yd (yj [.dat y1]) [] [] Int (fun x => waoe x.1.1) (fun r => ([.dat yi r], []))
noncomputable def wayi : Env := wac []
noncomputable def wayj : List (Nat × LD) := [(0, wzf)]
noncomputable def wayk : Code := (f114.body).getD .skip
noncomputable def T_zh (a1_ : Y1) (a2_ : List Y1) (a3_ : Y1) : Tr (Int) :=
 .c Y1 (F_zf a1_ a2_ a3_) fun r1_ =>
 .g (decide ((length r1_ + length ([(0 : Int)] : Y1)) * 8 ≤ 140737488355328)) <|
 .c (Int) (waoe (r1_ ++ ([(0 : Int)] : Y1))) fun r2_ =>
 .l r2_
noncomputable def F_zh (a1_ : Y1) (a2_ : List Y1) (a3_ : Y1) : Option (Int) := (T_zh a1_ a2_ a3_).ev
noncomputable def K_zh : RetK := yr [.tmp 4] Zf
noncomputable def D_zh : FD := yd (yj [.agg Zg, .dat y1]) [] [] Int (fun x => F_zh x.1.1.1 x.1.1.2.1 x.1.2.1) (fun r => ([.dat yi r], []))
noncomputable def T_zm (a1_ : Y1) (a2_ : List Y1) (a3_ : Y1) (a4_ : Int) : Tr (Int) :=
 .t (a4_ == 1)
 (.c (Int) (F_zk a1_ a2_ a3_) fun r1_ =>
 .l r1_)
 (.t (a4_ == 2)
 (.c (Int) (F_zg a1_ a2_ a3_) fun r2_ =>
 .l r2_)
 (.t (a4_ == 3)
 (.c (Int) (F_zl a1_ a2_ a3_) fun r3_ =>
 .l r3_)
 (.t (a4_ == 4)
 (.c (Int) (F_zh a1_ a2_ a3_) fun r4_ =>
 .l r4_)
 (.l ((length a3_ : Nat) : Int)))))
noncomputable def F_zm (a1_ : Y1) (a2_ : List Y1) (a3_ : Y1) (a4_ : Int) : Option (Int) := (T_zm a1_ a2_ a3_ a4_).ev
noncomputable def K_zm : RetK := yr [.tmp 6] Zf
noncomputable def D_zm : FD := yd (yj [.agg Zg, .dat y1, .dat yi]) [] [] Int (fun x => F_zm x.1.1.1 x.1.1.2.1 x.1.2.1 x.1.2.2.1) (fun r => ([.dat yi r], []))
noncomputable def wfy (k : Int × (Int × (((HL [(.pair (.pair yi yi) y1), (.pair (.pair yi yi) y1)] → Option (Int))) × Int))) (v : Int × Yc) : Tr (Yu ⊕ Yc) :=
 .t (decide (k.1 < v.1))
 (.g (inR v.1 (length v.2)) <|
 .g (decide ((toNat v.1) < length v.2)) <|
 .g (inR (wrap .i64 (v.1 - 1)) (length v.2)) <|
 .g (decide ((toNat (wrap .i64 (v.1 - 1))) < length v.2)) <|
 .c (Int) (k.2.2.1 ((getD v.2 (toNat v.1) (((0 : Int), (0 : Int)), ([] : Y1))), ((getD v.2 (toNat (wrap .i64 (v.1 - 1))) (((0 : Int), (0 : Int)), ([] : Y1))), ()))) fun r12_ =>
 .t (decide (r12_ < 0))
 (.g (inR (wrap .i64 (v.1 - 1)) (length v.2)) <|
 .g (decide ((toNat (wrap .i64 (v.1 - 1))) < length v.2)) <|
 .g (inR v.1 (length v.2)) <|
 .g (decide ((toNat v.1) < length v.2)) <|
 .g (inR v.1 (length v.2)) <|
 .g (decide ((toNat v.1) < length v.2)) <|
 .g (inR (wrap .i64 (v.1 - 1)) (length (set v.2 (toNat v.1) (getD v.2 (toNat (wrap .i64 (v.1 - 1))) (((0 : Int), (0 : Int)), ([] : Y1)))))) <|
 .g (decide ((toNat (wrap .i64 (v.1 - 1))) < length (set v.2 (toNat v.1) (getD v.2 (toNat (wrap .i64 (v.1 - 1))) (((0 : Int), (0 : Int)), ([] : Y1)))))) <|
 .l (.inl ((wrap .i64 (v.1 - 1)), (set (set v.2 (toNat v.1) (getD v.2 (toNat (wrap .i64 (v.1 - 1))) (((0 : Int), (0 : Int)), ([] : Y1)))) (toNat (wrap .i64 (v.1 - 1))) (getD v.2 (toNat v.1) (((0 : Int), (0 : Int)), ([] : Y1)))))))
 (.l (.inr v.2)))
 (.l (.inr v.2))
noncomputable def wps (k : Int × (Int × (((HL [(.pair (.pair yi yi) y1), (.pair (.pair yi yi) y1)] → Option (Int))) × Int))) (v : Int × Yc) : Option Yc := iter (fun v => (wfy k v).ev) v
noncomputable def wzg : LD := ⟨{ acts := [], S := { slots := [0, 1, 2, 3, 8, 9], sh := (yj [.arr 64, .dat yi, .dat yi, .clo [(.pair (.pair yi yi) y1), (.pair (.pair yi yi) y1)] yi, .dat yi, .dat yi]), obs := [(64, .arr 75 (.pair (.pair yi yi) y1))] } }, [(2, { acts := [], S := { slots := [0, 1, 2, 3, 8], sh := (yj [.arr 64, .dat yi, .dat yi, .clo [(.pair (.pair yi yi) y1), (.pair (.pair yi yi) y1)] yi, .dat yi]), obs := [(64, .arr 75 (.pair (.pair yi yi) y1))] } })], (yh [] .nil), Int × (Int × (((HL [(.pair (.pair yi yi) y1), (.pair (.pair yi yi) y1)] → Option (Int))) × Int)), Int × Yc, List (Ye × Y1), fun k v => (((), (k.1, (k.2.1, (k.2.2.1, (k.2.2.2, (v.1, ())))))), (v.2, ())), fun t => (t.1.2.1, (t.1.2.2.1, (t.1.2.2.2.1, t.1.2.2.2.2.1))), fun t => (t.1.2.2.2.2.2.1, t.2.1), wfy, fun k r => .l (.exit 2 (wbd ({ slots := [0, 1, 2, 3, 8], sh := (yj [.arr 64, .dat yi, .dat yi, .clo [(.pair (.pair yi yi) y1), (.pair (.pair yi yi) y1)] yi, .dat yi]), obs := [(64, .arr 75 (.pair (.pair yi yi) y1))] }) (((), (k.1, (k.2.1, (k.2.2.1, (k.2.2.2, ()))))), (r, ()))))⟩
noncomputable def wic (k : Int × (Int × ((HL [(.pair (.pair yi yi) y1), (.pair (.pair yi yi) y1)] → Option (Int))))) (v : Int × Yc) : Tr (Yu ⊕ Yc) :=
 .t (decide (v.1 < k.2.1))
 (.c Yc (wps (k.1, (k.2.1, (k.2.2, v.1))) (v.1, v.2)) fun r18_ =>
 .l (.inl ((wrap .i64 (v.1 + 1)), r18_)))
 (.l (.inr v.2))
noncomputable def wfz (k : Int × (Int × ((HL [(.pair (.pair yi yi) y1), (.pair (.pair yi yi) y1)] → Option (Int))))) (v : Int × Yc) : Option Yc := iter (fun v => (wic k v).ev) v
noncomputable def wzh : LD := ⟨{ acts := [], S := { slots := [0, 1, 2, 3, 8], sh := (yj [.arr 64, .dat yi, .dat yi, .clo [(.pair (.pair yi yi) y1), (.pair (.pair yi yi) y1)] yi, .dat yi]), obs := [(64, .arr 75 (.pair (.pair yi yi) y1))] } }, [(0, { acts := [], S := { slots := [0], sh := Zx, obs := [(64, .arr 75 (.pair (.pair yi yi) y1))] } })], (yh [] .nil), Int × (Int × ((HL [(.pair (.pair yi yi) y1), (.pair (.pair yi yi) y1)] → Option (Int)))), Int × Yc, List (Ye × Y1), fun k v => (((), (k.1, (k.2.1, (k.2.2, (v.1, ()))))), (v.2, ())), fun t => (t.1.2.1, (t.1.2.2.1, t.1.2.2.2.1)), fun t => (t.1.2.2.2.2.1, t.2.1), wic, fun _ r => .l (.exit 0 (wbd ({ slots := [0], sh := Zx, obs := [(64, .arr 75 (.pair (.pair yi yi) y1))] }) (((), ()), (r, ()))))⟩
noncomputable def wayl (a2_ : Int) (a3_ : Int) (a4_ : (HL [(.pair (.pair yi yi) y1), (.pair (.pair yi yi) y1)] → Option (Int))) (a1_ : List (Ye × Y1)) : Tr Yc :=
 .c Yc (wfz (a2_, (a3_, a4_)) ((wrap .i64 (a2_ + 1)), a1_)) fun r20_ =>
 .l r20_
noncomputable def waca (a2_ : Int) (a3_ : Int) (a4_ : (HL [(.pair (.pair yi yi) y1), (.pair (.pair yi yi) y1)] → Option (Int))) (a1_ : List (Ye × Y1)) : Option Yc := (wayl a2_ a3_ a4_ a1_).ev
noncomputable def wbpl : RetK := { acts := [], res := [], sh := .nil, obs := [(64, .arr 75 (.pair (.pair yi yi) y1))], pins := [(0, 0, 64)] }
noncomputable def waym : FD := yd (yj [.arr 64, .dat yi, .dat yi, .clo [(.pair (.pair yi yi) y1), (.pair (.pair yi yi) y1)] yi]) [(64, .arr 75 (.pair (.pair yi yi) y1))] [.arg 0] Yc (fun x => waca x.1.2.1 x.1.2.2.1 x.1.2.2.2.1 x.2.1) (fun r => ([], [(64, .arr 75 (.pair (.pair yi yi) y1) r)]))
noncomputable def waof : Env := wac []
noncomputable def waog : List (Nat × LD) := [(2, wzg), (0, wzh)]
noncomputable def waoh : Code := (f115.body).getD .skip
noncomputable def wll (k : Int × Ye) (v : Int × Yc) : Tr (Yu ⊕ Yc) :=
 .t (decide (v.1 < k.2.2))
 (.g (inR (wrap .i64 (k.2.1 + v.1)) (length v.2)) <|
 .g (decide ((toNat (wrap .i64 (k.2.1 + v.1))) < length v.2)) <|
 .g (inR (wrap .i64 (k.1 + v.1)) (length v.2)) <|
 .g (decide ((toNat (wrap .i64 (k.1 + v.1))) < length v.2)) <|
 .g (inR (wrap .i64 (k.1 + v.1)) (length v.2)) <|
 .g (decide ((toNat (wrap .i64 (k.1 + v.1))) < length v.2)) <|
 .g (inR (wrap .i64 (k.2.1 + v.1)) (length (set v.2 (toNat (wrap .i64 (k.1 + v.1))) (getD v.2 (toNat (wrap .i64 (k.2.1 + v.1))) (((0 : Int), (0 : Int)), ([] : Y1)))))) <|
 .g (decide ((toNat (wrap .i64 (k.2.1 + v.1))) < length (set v.2 (toNat (wrap .i64 (k.1 + v.1))) (getD v.2 (toNat (wrap .i64 (k.2.1 + v.1))) (((0 : Int), (0 : Int)), ([] : Y1)))))) <|
 .l (.inl ((wrap .i64 (v.1 + 1)), (set (set v.2 (toNat (wrap .i64 (k.1 + v.1))) (getD v.2 (toNat (wrap .i64 (k.2.1 + v.1))) (((0 : Int), (0 : Int)), ([] : Y1)))) (toNat (wrap .i64 (k.2.1 + v.1))) (getD v.2 (toNat (wrap .i64 (k.1 + v.1))) (((0 : Int), (0 : Int)), ([] : Y1)))))))
 (.l (.inr v.2))
noncomputable def wlm (k : Int × Ye) (v : Int × Yc) : Option Yc := iter (fun v => (wll k v).ev) v
noncomputable def wzi : LD := ⟨{ acts := [], S := { slots := [0, 1, 2, 3, 10], sh := (yj [.arr 64, .dat yi, .dat yi, .dat yi, .dat yi]), obs := [(64, .arr 75 (.pair (.pair yi yi) y1))] } }, [(0, { acts := [], S := { slots := [0], sh := Zx, obs := [(64, .arr 75 (.pair (.pair yi yi) y1))] } })], (yh [] .nil), Int × Ye, Int × Yc, List (Ye × Y1), fun k v => (((), (k.1, (k.2.1, (k.2.2, (v.1, ()))))), (v.2, ())), fun t => (t.1.2.1, (t.1.2.2.1, t.1.2.2.2.1)), fun t => (t.1.2.2.2.2.1, t.2.1), wll, fun _ r => .l (.exit 0 (wbd ({ slots := [0], sh := Zx, obs := [(64, .arr 75 (.pair (.pair yi yi) y1))] }) (((), ()), (r, ()))))⟩
noncomputable def wayn (a2_ : Int) (a3_ : Int) (a4_ : Int) (_a5_ : (HL [(.pair (.pair yi yi) y1), (.pair (.pair yi yi) y1)] → Option (Int))) (a1_ : List (Ye × Y1)) : Tr Yc :=
 .c Yc (wlm (a2_, (a3_, a4_)) ((0 : Int), a1_)) fun r7_ =>
 .l r7_
noncomputable def wvr (a2_ : Int) (a3_ : Int) (a4_ : Int) (a5_ : (HL [(.pair (.pair yi yi) y1), (.pair (.pair yi yi) y1)] → Option (Int))) (a1_ : List (Ye × Y1)) : Option Yc := (wayn a2_ a3_ a4_ a5_ a1_).ev
noncomputable def wbpm : RetK := { acts := [], res := [], sh := .nil, obs := [(64, .arr 75 (.pair (.pair yi yi) y1))], pins := [(0, 0, 64)] }
noncomputable def wayo : FD := yd (yj [.arr 64, .dat yi, .dat yi, .dat yi, .clo [(.pair (.pair yi yi) y1), (.pair (.pair yi yi) y1)] yi]) [(64, .arr 75 (.pair (.pair yi yi) y1))] [.arg 0] Yc (fun x => wvr x.1.2.1 x.1.2.2.1 x.1.2.2.2.1 x.1.2.2.2.2.1 x.2.1) (fun r => ([], [(64, .arr 75 (.pair (.pair yi yi) y1) r)]))
noncomputable def wayp : Env := wac []
noncomputable def wayq : List (Nat × LD) := [(0, wzi)]
noncomputable def wayr : Code := (f158.body).getD .skip
noncomputable def wga (k : Int × ((HL [(.pair (.pair yi yi) y1), (.pair (.pair yi yi) y1)] → Option (Int)))) (v : Int × Yu) : Tr ((Int × Yu) ⊕ Yu) :=
 .t (v.1 != v.2.1)
 (.t (decide (v.2.1 < v.1))
 (.c Yc (wvr (wrap .i64 (k.1 - v.1)) k.1 v.2.1 k.2 v.2.2) fun r6_ =>
 .l (.inl ((wrap .i64 (v.1 - v.2.1)), (v.2.1, r6_))))
 (.c Yc (wvr (wrap .i64 (k.1 - v.1)) (wrap .i64 ((wrap .i64 (k.1 + v.2.1)) - v.1)) v.1 k.2 v.2.2) fun r7_ =>
 .l (.inl (v.1, ((wrap .i64 (v.2.1 - v.1)), r7_)))))
 (.l (.inr (v.1, v.2.2)))
noncomputable def wvs (k : Int × ((HL [(.pair (.pair yi yi) y1), (.pair (.pair yi yi) y1)] → Option (Int)))) (v : Int × Yu) : Option Yu := iter (fun v => (wga k v).ev) v
noncomputable def wzj : LD := ⟨{ acts := [], S := { slots := [0, 2, 4, 10, 11], sh := (yj [.arr 64, .dat yi, .clo [(.pair (.pair yi yi) y1), (.pair (.pair yi yi) y1)] yi, .dat yi, .dat yi]), obs := [(64, .arr 75 (.pair (.pair yi yi) y1))] } }, [(0, { acts := [], S := { slots := [0, 2, 4, 10], sh := (yj [.arr 64, .dat yi, .clo [(.pair (.pair yi yi) y1), (.pair (.pair yi yi) y1)] yi, .dat yi]), obs := [(64, .arr 75 (.pair (.pair yi yi) y1))] } })], (yh [] .nil), Int × ((HL [(.pair (.pair yi yi) y1), (.pair (.pair yi yi) y1)] → Option (Int))), Int × Yu, Int × Yc, fun k v => (((), (k.1, (k.2, (v.1, (v.2.1, ()))))), (v.2.2, ())), fun t => (t.1.2.1, t.1.2.2.1), fun t => (t.1.2.2.2.1, (t.1.2.2.2.2.1, t.2.1)), wga, fun k r => .l (.exit 0 (wbd ({ slots := [0, 2, 4, 10], sh := (yj [.arr 64, .dat yi, .clo [(.pair (.pair yi yi) y1), (.pair (.pair yi yi) y1)] yi, .dat yi]), obs := [(64, .arr 75 (.pair (.pair yi yi) y1))] }) (((), (k.1, (k.2, (r.1, ())))), (r.2, ()))))⟩
noncomputable def wayt (a2_ : Int) (a3_ : Int) (a4_ : Int) (a5_ : (HL [(.pair (.pair yi yi) y1), (.pair (.pair yi yi) y1)] → Option (Int))) (a1_ : List (Ye × Y1)) : Tr Yc :=
 .c Yu (wvs (a3_, a5_) ((wrap .i64 (a3_ - a2_)), ((wrap .i64 (a4_ - a3_)), a1_))) fun r12_ =>
 .c Yc (wvr (wrap .i64 (a3_ - r12_.1)) a3_ r12_.1 a5_ r12_.2) fun r13_ =>
 .l r13_
noncomputable def wss (a2_ : Int) (a3_ : Int) (a4_ : Int) (a5_ : (HL [(.pair (.pair yi yi) y1), (.pair (.pair yi yi) y1)] → Option (Int))) (a1_ : List (Ye × Y1)) : Option Yc := (wayt a2_ a3_ a4_ a5_ a1_).ev
noncomputable def wbpn : RetK := { acts := [], res := [], sh := .nil, obs := [(64, .arr 75 (.pair (.pair yi yi) y1))], pins := [(0, 0, 64)] }
noncomputable def wayu : FD := yd (yj [.arr 64, .dat yi, .dat yi, .dat yi, .clo [(.pair (.pair yi yi) y1), (.pair (.pair yi yi) y1)] yi]) [(64, .arr 75 (.pair (.pair yi yi) y1))] [.arg 0] Yc (fun x => wss x.1.2.1 x.1.2.2.1 x.1.2.2.2.1 x.1.2.2.2.2.1 x.2.1) (fun r => ([], [(64, .arr 75 (.pair (.pair yi yi) y1) r)]))
noncomputable def wayv : Env := wac [(158, wayo)]
noncomputable def wayw : List (Nat × LD) := [(0, wzj)]
noncomputable def wayx : Code := (f139.body).getD .skip
noncomputable def wln (rec_ : (Int) → (Int) → (Int) → ((HL [(.pair (.pair yi yi) y1), (.pair (.pair yi yi) y1)] → Option (Int))) → Yc → Option Yc) (k : Int × (((HL [(.pair (.pair yi yi) y1), (.pair (.pair yi yi) y1)] → Option (Int))) × Yc)) (v : Int × Int) : Tr (Ye ⊕ (Int)) :=
 .t (decide (v.1 < v.2))
 (.g (decide ((0 : Int) ≤ (1 : Int))) <|
 .g (inR (wrap .i64 (Int.fdiv (wrap .u64 (wrap .i64 (v.1 + v.2))) (2 ^ (min (toNat 1) Zb)))) (length k.2.2)) <|
 .g (decide ((toNat (wrap .i64 (Int.fdiv (wrap .u64 (wrap .i64 (v.1 + v.2))) (2 ^ (min (toNat 1) Zb))))) < length k.2.2)) <|
 .g (inR k.1 (length k.2.2)) <|
 .g (decide ((toNat k.1) < length k.2.2)) <|
 .c (Int) (k.2.1 ((getD k.2.2 (toNat (wrap .i64 (Int.fdiv (wrap .u64 (wrap .i64 (v.1 + v.2))) (2 ^ (min (toNat 1) Zb))))) (((0 : Int), (0 : Int)), ([] : Y1))), ((getD k.2.2 (toNat k.1) (((0 : Int), (0 : Int)), ([] : Y1))), ()))) fun r6_ =>
 .t (decide (r6_ < 0))
 (.l (.inl ((wrap .i64 ((wrap .i64 (Int.fdiv (wrap .u64 (wrap .i64 (v.1 + v.2))) (2 ^ (min (toNat 1) Zb)))) + 1)), v.2)))
 (.l (.inl (v.1, (wrap .i64 (Int.fdiv (wrap .u64 (wrap .i64 (v.1 + v.2))) (2 ^ (min (toNat 1) Zb))))))))
 (.l (.inr v.1))
noncomputable def wvt (rec_ : (Int) → (Int) → (Int) → ((HL [(.pair (.pair yi yi) y1), (.pair (.pair yi yi) y1)] → Option (Int))) → Yc → Option Yc) (k : Int × (((HL [(.pair (.pair yi yi) y1), (.pair (.pair yi yi) y1)] → Option (Int))) × Yc)) (v : Int × Int) : Option (Int) := iter (fun v => (wln rec_ k v).ev) v
noncomputable def wzk (rec_ : (Int) → (Int) → (Int) → ((HL [(.pair (.pair yi yi) y1), (.pair (.pair yi yi) y1)] → Option (Int))) → Yc → Option Yc) : LD where
 head := { acts := [], S := { slots := [0, 1, 4, 10, 11], sh := (yj [.arr 64, .dat yi, .clo [(.pair (.pair yi yi) y1), (.pair (.pair yi yi) y1)] yi, .dat yi, .dat yi]), obs := [(64, .arr 75 (.pair (.pair yi yi) y1))] } }
 exits := [(0, { acts := [], S := { slots := [0, 1, 10], sh := Zn, obs := [(64, .arr 75 (.pair (.pair yi yi) y1))] } })]
 rets := (yh [] .nil)
 K := Int × (((HL [(.pair (.pair yi yi) y1), (.pair (.pair yi yi) y1)] → Option (Int))) × Yc)
 V := Int × (Int)
 R := Int
 join := fun k v => (((), (k.1, (k.2.1, (v.1, (v.2, ()))))), (k.2.2, ()))
 sk := fun t => (t.1.2.1, (t.1.2.2.1, t.2.1))
 sv := fun t => (t.1.2.2.2.1, t.1.2.2.2.2.1)
 step := wln rec_
 leaf := fun k r => .l (.exit 0 (wbd ({ slots := [0, 1, 10], sh := Zn, obs := [(64, .arr 75 (.pair (.pair yi yi) y1))] }) (((), (k.1, (r, ()))), (k.2.2, ()))))
noncomputable def wlp (rec_ : (Int) → (Int) → (Int) → ((HL [(.pair (.pair yi yi) y1), (.pair (.pair yi yi) y1)] → Option (Int))) → Yc → Option Yc) (k : Int) (v : Int × Yc) : Tr (Yu ⊕ Yc) :=
 .t (decide (v.1 < (wrap .i64 (k - 1))))
 (.g (inR (wrap .i64 (v.1 + 1)) (length v.2)) <|
 .g (decide ((toNat (wrap .i64 (v.1 + 1))) < length v.2)) <|
 .g (inR v.1 (length v.2)) <|
 .g (decide ((toNat v.1) < length v.2)) <|
 .g (inR v.1 (length v.2)) <|
 .g (decide ((toNat v.1) < length v.2)) <|
 .g (inR (wrap .i64 (v.1 + 1)) (length (set v.2 (toNat v.1) (getD v.2 (toNat (wrap .i64 (v.1 + 1))) (((0 : Int), (0 : Int)), ([] : Y1)))))) <|
 .g (decide ((toNat (wrap .i64 (v.1 + 1))) < length (set v.2 (toNat v.1) (getD v.2 (toNat (wrap .i64 (v.1 + 1))) (((0 : Int), (0 : Int)), ([] : Y1)))))) <|
 .l (.inl ((wrap .i64 (v.1 + 1)), (set (set v.2 (toNat v.1) (getD v.2 (toNat (wrap .i64 (v.1 + 1))) (((0 : Int), (0 : Int)), ([] : Y1)))) (toNat (wrap .i64 (v.1 + 1))) (getD v.2 (toNat v.1) (((0 : Int), (0 : Int)), ([] : Y1)))))))
 (.l (.inr v.2))
noncomputable def wlq (rec_ : (Int) → (Int) → (Int) → ((HL [(.pair (.pair yi yi) y1), (.pair (.pair yi yi) y1)] → Option (Int))) → Yc → Option Yc) (k : Int) (v : Int × Yc) : Option Yc := iter (fun v => (wlp rec_ k v).ev) v
noncomputable def wzl (rec_ : (Int) → (Int) → (Int) → ((HL [(.pair (.pair yi yi) y1), (.pair (.pair yi yi) y1)] → Option (Int))) → Yc → Option Yc) : LD where
 head := { acts := [], S := { slots := [0, 10, 13], sh := Zn, obs := [(64, .arr 75 (.pair (.pair yi yi) y1))] } }
 exits := [(2, { acts := [], S := { slots := [0], sh := Zx, obs := [(64, .arr 75 (.pair (.pair yi yi) y1))] } })]
 rets := (yh [] .nil)
 K := Int
 V := Int × Yc
 R := List (Ye × Y1)
 join := fun k v => (((), (k, (v.1, ()))), (v.2, ()))
 sk := fun t => t.1.2.1
 sv := fun t => (t.1.2.2.1, t.2.1)
 step := wlp rec_
 leaf := fun _ r => .l (.exit 2 (wbd ({ slots := [0], sh := Zx, obs := [(64, .arr 75 (.pair (.pair yi yi) y1))] }) (((), ()), (r, ()))))
noncomputable def wlr (rec_ : (Int) → (Int) → (Int) → ((HL [(.pair (.pair yi yi) y1), (.pair (.pair yi yi) y1)] → Option (Int))) → Yc → Option Yc) (k : Int × (((HL [(.pair (.pair yi yi) y1), (.pair (.pair yi yi) y1)] → Option (Int))) × Yc)) (v : Int × Int) : Tr (Ye ⊕ (Int)) :=
 .t (decide (v.1 < v.2))
 (.g (decide ((0 : Int) ≤ (1 : Int))) <|
 .g (inR k.1 (length k.2.2)) <|
 .g (decide ((toNat k.1) < length k.2.2)) <|
 .g (inR (wrap .i64 (Int.fdiv (wrap .u64 (wrap .i64 (v.1 + v.2))) (2 ^ (min (toNat 1) Zb)))) (length k.2.2)) <|
 .g (decide ((toNat (wrap .i64 (Int.fdiv (wrap .u64 (wrap .i64 (v.1 + v.2))) (2 ^ (min (toNat 1) Zb))))) < length k.2.2)) <|
 .c (Int) (k.2.1 ((getD k.2.2 (toNat k.1) (((0 : Int), (0 : Int)), ([] : Y1))), ((getD k.2.2 (toNat (wrap .i64 (Int.fdiv (wrap .u64 (wrap .i64 (v.1 + v.2))) (2 ^ (min (toNat 1) Zb))))) (((0 : Int), (0 : Int)), ([] : Y1))), ()))) fun r21_ =>
 .t (!(decide (r21_ < 0)))
 (.l (.inl ((wrap .i64 ((wrap .i64 (Int.fdiv (wrap .u64 (wrap .i64 (v.1 + v.2))) (2 ^ (min (toNat 1) Zb)))) + 1)), v.2)))
 (.l (.inl (v.1, (wrap .i64 (Int.fdiv (wrap .u64 (wrap .i64 (v.1 + v.2))) (2 ^ (min (toNat 1) Zb))))))))
 (.l (.inr v.1))
noncomputable def wvu (rec_ : (Int) → (Int) → (Int) → ((HL [(.pair (.pair yi yi) y1), (.pair (.pair yi yi) y1)] → Option (Int))) → Yc → Option Yc) (k : Int × (((HL [(.pair (.pair yi yi) y1), (.pair (.pair yi yi) y1)] → Option (Int))) × Yc)) (v : Int × Int) : Option (Int) := iter (fun v => (wlr rec_ k v).ev) v
noncomputable def wzm (rec_ : (Int) → (Int) → (Int) → ((HL [(.pair (.pair yi yi) y1), (.pair (.pair yi yi) y1)] → Option (Int))) → Yc → Option Yc) : LD where
 head := { acts := [], S := { slots := [0, 2, 4, 14, 15], sh := (yj [.arr 64, .dat yi, .clo [(.pair (.pair yi yi) y1), (.pair (.pair yi yi) y1)] yi, .dat yi, .dat yi]), obs := [(64, .arr 75 (.pair (.pair yi yi) y1))] } }
 exits := [(4, { acts := [], S := { slots := [0, 2, 14], sh := Zn, obs := [(64, .arr 75 (.pair (.pair yi yi) y1))] } })]
 rets := (yh [] .nil)
 K := Int × (((HL [(.pair (.pair yi yi) y1), (.pair (.pair yi yi) y1)] → Option (Int))) × Yc)
 V := Int × (Int)
 R := Int
 join := fun k v => (((), (k.1, (k.2.1, (v.1, (v.2, ()))))), (k.2.2, ()))
 sk := fun t => (t.1.2.1, (t.1.2.2.1, t.2.1))
 sv := fun t => (t.1.2.2.2.1, t.1.2.2.2.2.1)
 step := wlr rec_
 leaf := fun k r => .l (.exit 4 (wbd ({ slots := [0, 2, 14], sh := Zn, obs := [(64, .arr 75 (.pair (.pair yi yi) y1))] }) (((), (k.1, (r, ()))), (k.2.2, ()))))
noncomputable def wls (rec_ : (Int) → (Int) → (Int) → ((HL [(.pair (.pair yi yi) y1), (.pair (.pair yi yi) y1)] → Option (Int))) → Yc → Option Yc) (k : Int) (v : Int × Yc) : Tr (Yu ⊕ Yc) :=
 .t (decide (k < v.1))
 (.g (inR (wrap .i64 (v.1 - 1)) (length v.2)) <|
 .g (decide ((toNat (wrap .i64 (v.1 - 1))) < length v.2)) <|
 .g (inR v.1 (length v.2)) <|
 .g (decide ((toNat v.1) < length v.2)) <|
 .g (inR v.1 (length v.2)) <|
 .g (decide ((toNat v.1) < length v.2)) <|
 .g (inR (wrap .i64 (v.1 - 1)) (length (set v.2 (toNat v.1) (getD v.2 (toNat (wrap .i64 (v.1 - 1))) (((0 : Int), (0 : Int)), ([] : Y1)))))) <|
 .g (decide ((toNat (wrap .i64 (v.1 - 1))) < length (set v.2 (toNat v.1) (getD v.2 (toNat (wrap .i64 (v.1 - 1))) (((0 : Int), (0 : Int)), ([] : Y1)))))) <|
 .l (.inl ((wrap .i64 (v.1 - 1)), (set (set v.2 (toNat v.1) (getD v.2 (toNat (wrap .i64 (v.1 - 1))) (((0 : Int), (0 : Int)), ([] : Y1)))) (toNat (wrap .i64 (v.1 - 1))) (getD v.2 (toNat v.1) (((0 : Int), (0 : Int)), ([] : Y1)))))))
 (.l (.inr v.2))
noncomputable def wlt (rec_ : (Int) → (Int) → (Int) → ((HL [(.pair (.pair yi yi) y1), (.pair (.pair yi yi) y1)] → Option (Int))) → Yc → Option Yc) (k : Int) (v : Int × Yc) : Option Yc := iter (fun v => (wls rec_ k v).ev) v
noncomputable def wzn (rec_ : (Int) → (Int) → (Int) → ((HL [(.pair (.pair yi yi) y1), (.pair (.pair yi yi) y1)] → Option (Int))) → Yc → Option Yc) : LD where
 head := { acts := [], S := { slots := [0, 14, 17], sh := Zn, obs := [(64, .arr 75 (.pair (.pair yi yi) y1))] } }
 exits := [(6, { acts := [], S := { slots := [0], sh := Zx, obs := [(64, .arr 75 (.pair (.pair yi yi) y1))] } })]
 rets := (yh [] .nil)
 K := Int
 V := Int × Yc
 R := List (Ye × Y1)
 join := fun k v => (((), (k, (v.1, ()))), (v.2, ()))
 sk := fun t => t.1.2.1
 sv := fun t => (t.1.2.2.1, t.2.1)
 step := wls rec_
 leaf := fun _ r => .l (.exit 6 (wbd ({ slots := [0], sh := Zx, obs := [(64, .arr 75 (.pair (.pair yi yi) y1))] }) (((), ()), (r, ()))))
noncomputable def wlu (rec_ : (Int) → (Int) → (Int) → ((HL [(.pair (.pair yi yi) y1), (.pair (.pair yi yi) y1)] → Option (Int))) → Yc → Option Yc) (k : Int × (Int × (Int × (((HL [(.pair (.pair yi yi) y1), (.pair (.pair yi yi) y1)] → Option (Int))) × (Int × (Int × Yu)))))) (v : Int × Int) : Tr (Ye ⊕ (Int)) :=
 .t (decide (v.1 < v.2))
 (.g (decide ((0 : Int) ≤ (1 : Int))) <|
 .g (inR (wrap .i64 (k.2.2.2.2.2.2.1 - (wrap .i64 (Int.fdiv (wrap .u64 (wrap .i64 (v.1 + v.2))) (2 ^ (min (toNat 1) Zb)))))) (length k.2.2.2.2.2.2.2)) <|
 .g (decide ((toNat (wrap .i64 (k.2.2.2.2.2.2.1 - (wrap .i64 (Int.fdiv (wrap .u64 (wrap .i64 (v.1 + v.2))) (2 ^ (min (toNat 1) Zb))))))) < length k.2.2.2.2.2.2.2)) <|
 .g (inR (wrap .i64 (Int.fdiv (wrap .u64 (wrap .i64 (v.1 + v.2))) (2 ^ (min (toNat 1) Zb)))) (length k.2.2.2.2.2.2.2)) <|
 .g (decide ((toNat (wrap .i64 (Int.fdiv (wrap .u64 (wrap .i64 (v.1 + v.2))) (2 ^ (min (toNat 1) Zb))))) < length k.2.2.2.2.2.2.2)) <|
 .c (Int) (k.2.2.2.1 ((getD k.2.2.2.2.2.2.2 (toNat (wrap .i64 (k.2.2.2.2.2.2.1 - (wrap .i64 (Int.fdiv (wrap .u64 (wrap .i64 (v.1 + v.2))) (2 ^ (min (toNat 1) Zb))))))) (((0 : Int), (0 : Int)), ([] : Y1))), ((getD k.2.2.2.2.2.2.2 (toNat (wrap .i64 (Int.fdiv (wrap .u64 (wrap .i64 (v.1 + v.2))) (2 ^ (min (toNat 1) Zb))))) (((0 : Int), (0 : Int)), ([] : Y1))), ()))) fun r41_ =>
 .t (!(decide (r41_ < 0)))
 (.l (.inl ((wrap .i64 ((wrap .i64 (Int.fdiv (wrap .u64 (wrap .i64 (v.1 + v.2))) (2 ^ (min (toNat 1) Zb)))) + 1)), v.2)))
 (.l (.inl (v.1, (wrap .i64 (Int.fdiv (wrap .u64 (wrap .i64 (v.1 + v.2))) (2 ^ (min (toNat 1) Zb))))))))
 (.l (.inr v.1))
noncomputable def wie (rec_ : (Int) → (Int) → (Int) → ((HL [(.pair (.pair yi yi) y1), (.pair (.pair yi yi) y1)] → Option (Int))) → Yc → Option Yc) (k : Int × (Int × (Int × (((HL [(.pair (.pair yi yi) y1), (.pair (.pair yi yi) y1)] → Option (Int))) × (Int × (Int × Yu)))))) (v : Int × Int) : Option (Int) := iter (fun v => (wlu rec_ k v).ev) v
noncomputable def wzo (rec_ : (Int) → (Int) → (Int) → ((HL [(.pair (.pair yi yi) y1), (.pair (.pair yi yi) y1)] → Option (Int))) → Yc → Option Yc) : LD where
 head := { acts := [], S := { slots := [0, 1, 2, 3, 4, 18, 19, 20, 21, 22], sh := (yj [.arr 64, .dat yi, .dat yi, .dat yi, .clo [(.pair (.pair yi yi) y1), (.pair (.pair yi yi) y1)] yi, .dat yi, .dat yi, .dat yi, .dat yi, .dat yi]), obs := [(64, .arr 75 (.pair (.pair yi yi) y1))] } }
 exits := [(8, { acts := [], S := { slots := [0, 1, 2, 3, 4, 18, 19, 20], sh := (yj [.arr 64, .dat yi, .dat yi, .dat yi, .clo [(.pair (.pair yi yi) y1), (.pair (.pair yi yi) y1)] yi, .dat yi, .dat yi, .dat yi]), obs := [(64, .arr 75 (.pair (.pair yi yi) y1))] } })]
 rets := (yh [] .nil)
 K := Int × (Int × (Int × (((HL [(.pair (.pair yi yi) y1), (.pair (.pair yi yi) y1)] → Option (Int))) × (Int × (Int × Yu)))))
 V := Int × (Int)
 R := Int
 join := fun k v => (((), (k.1, (k.2.1, (k.2.2.1, (k.2.2.2.1, (k.2.2.2.2.1, (k.2.2.2.2.2.1, (v.1, (v.2, (k.2.2.2.2.2.2.1, ())))))))))), (k.2.2.2.2.2.2.2, ()))
 sk := fun t => (t.1.2.1, (t.1.2.2.1, (t.1.2.2.2.1, (t.1.2.2.2.2.1, (t.1.2.2.2.2.2.1, (t.1.2.2.2.2.2.2.1, (t.1.2.2.2.2.2.2.2.2.2.1, t.2.1)))))))
 sv := fun t => (t.1.2.2.2.2.2.2.2.1, t.1.2.2.2.2.2.2.2.2.1)
 step := wlu rec_
 leaf := fun k r => .l (.exit 8 (wbd ({ slots := [0, 1, 2, 3, 4, 18, 19, 20], sh := (yj [.arr 64, .dat yi, .dat yi, .dat yi, .clo [(.pair (.pair yi yi) y1), (.pair (.pair yi yi) y1)] yi, .dat yi, .dat yi, .dat yi]), obs := [(64, .arr 75 (.pair (.pair yi yi) y1))] }) (((), (k.1, (k.2.1, (k.2.2.1, (k.2.2.2.1, (k.2.2.2.2.1, (k.2.2.2.2.2.1, (r, ())))))))), (k.2.2.2.2.2.2.2, ()))))
noncomputable def wagp (rec_ : (Int) → (Int) → (Int) → ((HL [(.pair (.pair yi yi) y1), (.pair (.pair yi yi) y1)] → Option (Int))) → Yc → Option Yc) (a2_ : Int) (a3_ : Int) (a4_ : Int) (a5_ : (HL [(.pair (.pair yi yi) y1), (.pair (.pair yi yi) y1)] → Option (Int))) (a1_ : List (Ye × Y1)) : Tr Yc :=
 .t ((wrap .i64 (a3_ - a2_)) == (1 : Int))
 (.c (Int) (wvt rec_ (a2_, (a5_, a1_)) (a3_, a4_)) fun r10_ =>
 .c Yc (wlq rec_ r10_ (a2_, a1_)) fun r15_ =>
 .l r15_)
 (.t ((wrap .i64 (a4_ - a3_)) == (1 : Int))
 (.c (Int) (wvu rec_ (a3_, (a5_, a1_)) (a2_, a3_)) fun r25_ =>
 .c Yc (wlt rec_ r25_ (a3_, a1_)) fun r30_ =>
 .l r30_)
 (.g (decide ((0 : Int) ≤ (1 : Int))) <|
 .t (decide ((wrap .i64 (Int.fdiv (wrap .u64 (wrap .i64 (a2_ + a4_))) (2 ^ (min (toNat 1) Zb)))) < a3_))
 (.c (Int) (wie rec_ (a2_, (a3_, (a4_, (a5_, ((wrap .i64 (Int.fdiv (wrap .u64 (wrap .i64 (a2_ + a4_))) (2 ^ (min (toNat 1) Zb)))), ((wrap .i64 ((wrap .i64 (Int.fdiv (wrap .u64 (wrap .i64 (a2_ + a4_))) (2 ^ (min (toNat 1) Zb)))) + a3_)), ((wrap .i64 ((wrap .i64 ((wrap .i64 (Int.fdiv (wrap .u64 (wrap .i64 (a2_ + a4_))) (2 ^ (min (toNat 1) Zb)))) + a3_)) - 1)), a1_))))))) ((wrap .i64 ((wrap .i64 ((wrap .i64 (Int.fdiv (wrap .u64 (wrap .i64 (a2_ + a4_))) (2 ^ (min (toNat 1) Zb)))) + a3_)) - a4_)), (wrap .i64 (Int.fdiv (wrap .u64 (wrap .i64 (a2_ + a4_))) (2 ^ (min (toNat 1) Zb)))))) fun r50_ =>
 .t (decide (r50_ < a3_))
 (.t (decide (a3_ < (wrap .i64 ((wrap .i64 ((wrap .i64 (Int.fdiv (wrap .u64 (wrap .i64 (a2_ + a4_))) (2 ^ (min (toNat 1) Zb)))) + a3_)) - r50_))))
 (.c Yc (wss r50_ a3_ (wrap .i64 ((wrap .i64 ((wrap .i64 (Int.fdiv (wrap .u64 (wrap .i64 (a2_ + a4_))) (2 ^ (min (toNat 1) Zb)))) + a3_)) - r50_)) a5_ a1_) fun r51_ =>
 .t (decide (a2_ < r50_))
 (.t (decide (r50_ < (wrap .i64 (Int.fdiv (wrap .u64 (wrap .i64 (a2_ + a4_))) (2 ^ (min (toNat 1) Zb))))))
 (.c Yc (rec_ a2_ r50_ (wrap .i64 (Int.fdiv (wrap .u64 (wrap .i64 (a2_ + a4_))) (2 ^ (min (toNat 1) Zb)))) a5_ r51_) fun r52_ =>
 .t (decide ((wrap .i64 (Int.fdiv (wrap .u64 (wrap .i64 (a2_ + a4_))) (2 ^ (min (toNat 1) Zb)))) < (wrap .i64 ((wrap .i64 ((wrap .i64 (Int.fdiv (wrap .u64 (wrap .i64 (a2_ + a4_))) (2 ^ (min (toNat 1) Zb)))) + a3_)) - r50_))))
 (.t (decide ((wrap .i64 ((wrap .i64 ((wrap .i64 (Int.fdiv (wrap .u64 (wrap .i64 (a2_ + a4_))) (2 ^ (min (toNat 1) Zb)))) + a3_)) - r50_)) < a4_))
 (.c Yc (rec_ (wrap .i64 (Int.fdiv (wrap .u64 (wrap .i64 (a2_ + a4_))) (2 ^ (min (toNat 1) Zb)))) (wrap .i64 ((wrap .i64 ((wrap .i64 (Int.fdiv (wrap .u64 (wrap .i64 (a2_ + a4_))) (2 ^ (min (toNat 1) Zb)))) + a3_)) - r50_)) a4_ a5_ r52_) fun r53_ =>
 .l r53_)
 (.l r52_))
 (.l r52_))
 (.t (decide ((wrap .i64 (Int.fdiv (wrap .u64 (wrap .i64 (a2_ + a4_))) (2 ^ (min (toNat 1) Zb)))) < (wrap .i64 ((wrap .i64 ((wrap .i64 (Int.fdiv (wrap .u64 (wrap .i64 (a2_ + a4_))) (2 ^ (min (toNat 1) Zb)))) + a3_)) - r50_))))
 (.t (decide ((wrap .i64 ((wrap .i64 ((wrap .i64 (Int.fdiv (wrap .u64 (wrap .i64 (a2_ + a4_))) (2 ^ (min (toNat 1) Zb)))) + a3_)) - r50_)) < a4_))
 (.c Yc (rec_ (wrap .i64 (Int.fdiv (wrap .u64 (wrap .i64 (a2_ + a4_))) (2 ^ (min (toNat 1) Zb)))) (wrap .i64 ((wrap .i64 ((wrap .i64 (Int.fdiv (wrap .u64 (wrap .i64 (a2_ + a4_))) (2 ^ (min (toNat 1) Zb)))) + a3_)) - r50_)) a4_ a5_ r51_) fun r54_ =>
 .l r54_)
 (.l r51_))
 (.l r51_)))
 (.t (decide ((wrap .i64 (Int.fdiv (wrap .u64 (wrap .i64 (a2_ + a4_))) (2 ^ (min (toNat 1) Zb)))) < (wrap .i64 ((wrap .i64 ((wrap .i64 (Int.fdiv (wrap .u64 (wrap .i64 (a2_ + a4_))) (2 ^ (min (toNat 1) Zb)))) + a3_)) - r50_))))
 (.t (decide ((wrap .i64 ((wrap .i64 ((wrap .i64 (Int.fdiv (wrap .u64 (wrap .i64 (a2_ + a4_))) (2 ^ (min (toNat 1) Zb)))) + a3_)) - r50_)) < a4_))
 (.c Yc (rec_ (wrap .i64 (Int.fdiv (wrap .u64 (wrap .i64 (a2_ + a4_))) (2 ^ (min (toNat 1) Zb)))) (wrap .i64 ((wrap .i64 ((wrap .i64 (Int.fdiv (wrap .u64 (wrap .i64 (a2_ + a4_))) (2 ^ (min (toNat 1) Zb)))) + a3_)) - r50_)) a4_ a5_ r51_) fun r55_ =>
 .l r55_)
 (.l r51_))
 (.l r51_)))
 (.t (decide (a2_ < r50_))
 (.t (decide (r50_ < (wrap .i64 (Int.fdiv (wrap .u64 (wrap .i64 (a2_ + a4_))) (2 ^ (min (toNat 1) Zb))))))
 (.c Yc (rec_ a2_ r50_ (wrap .i64 (Int.fdiv (wrap .u64 (wrap .i64 (a2_ + a4_))) (2 ^ (min (toNat 1) Zb)))) a5_ a1_) fun r56_ =>
 .t (decide ((wrap .i64 (Int.fdiv (wrap .u64 (wrap .i64 (a2_ + a4_))) (2 ^ (min (toNat 1) Zb)))) < (wrap .i64 ((wrap .i64 ((wrap .i64 (Int.fdiv (wrap .u64 (wrap .i64 (a2_ + a4_))) (2 ^ (min (toNat 1) Zb)))) + a3_)) - r50_))))
 (.t (decide ((wrap .i64 ((wrap .i64 ((wrap .i64 (Int.fdiv (wrap .u64 (wrap .i64 (a2_ + a4_))) (2 ^ (min (toNat 1) Zb)))) + a3_)) - r50_)) < a4_))
 (.c Yc (rec_ (wrap .i64 (Int.fdiv (wrap .u64 (wrap .i64 (a2_ + a4_))) (2 ^ (min (toNat 1) Zb)))) (wrap .i64 ((wrap .i64 ((wrap .i64 (Int.fdiv (wrap .u64 (wrap .i64 (a2_ + a4_))) (2 ^ (min (toNat 1) Zb)))) + a3_)) - r50_)) a4_ a5_ r56_) fun r57_ =>
 .l r57_)
 (.l r56_))
 (.l r56_))
 (.t (decide ((wrap .i64 (Int.fdiv (wrap .u64 (wrap .i64 (a2_ + a4_))) (2 ^ (min (toNat 1) Zb)))) < (wrap .i64 ((wrap .i64 ((wrap .i64 (Int.fdiv (wrap .u64 (wrap .i64 (a2_ + a4_))) (2 ^ (min (toNat 1) Zb)))) + a3_)) - r50_))))
 (.t (decide ((wrap .i64 ((wrap .i64 ((wrap .i64 (Int.fdiv (wrap .u64 (wrap .i64 (a2_ + a4_))) (2 ^ (min (toNat 1) Zb)))) + a3_)) - r50_)) < a4_))
 (.c Yc (rec_ (wrap .i64 (Int.fdiv (wrap .u64 (wrap .i64 (a2_ + a4_))) (2 ^ (min (toNat 1) Zb)))) (wrap .i64 ((wrap .i64 ((wrap .i64 (Int.fdiv (wrap .u64 (wrap .i64 (a2_ + a4_))) (2 ^ (min (toNat 1) Zb)))) + a3_)) - r50_)) a4_ a5_ a1_) fun r58_ =>
 .l r58_)
 (.l a1_))
 (.l a1_)))
 (.t (decide ((wrap .i64 (Int.fdiv (wrap .u64 (wrap .i64 (a2_ + a4_))) (2 ^ (min (toNat 1) Zb)))) < (wrap .i64 ((wrap .i64 ((wrap .i64 (Int.fdiv (wrap .u64 (wrap .i64 (a2_ + a4_))) (2 ^ (min (toNat 1) Zb)))) + a3_)) - r50_))))
 (.t (decide ((wrap .i64 ((wrap .i64 ((wrap .i64 (Int.fdiv (wrap .u64 (wrap .i64 (a2_ + a4_))) (2 ^ (min (toNat 1) Zb)))) + a3_)) - r50_)) < a4_))
 (.c Yc (rec_ (wrap .i64 (Int.fdiv (wrap .u64 (wrap .i64 (a2_ + a4_))) (2 ^ (min (toNat 1) Zb)))) (wrap .i64 ((wrap .i64 ((wrap .i64 (Int.fdiv (wrap .u64 (wrap .i64 (a2_ + a4_))) (2 ^ (min (toNat 1) Zb)))) + a3_)) - r50_)) a4_ a5_ a1_) fun r59_ =>
 .l r59_)
 (.l a1_))
 (.l a1_))))
 (.t (decide (a2_ < r50_))
 (.t (decide (r50_ < (wrap .i64 (Int.fdiv (wrap .u64 (wrap .i64 (a2_ + a4_))) (2 ^ (min (toNat 1) Zb))))))
 (.c Yc (rec_ a2_ r50_ (wrap .i64 (Int.fdiv (wrap .u64 (wrap .i64 (a2_ + a4_))) (2 ^ (min (toNat 1) Zb)))) a5_ a1_) fun r60_ =>
 .t (decide ((wrap .i64 (Int.fdiv (wrap .u64 (wrap .i64 (a2_ + a4_))) (2 ^ (min (toNat 1) Zb)))) < (wrap .i64 ((wrap .i64 ((wrap .i64 (Int.fdiv (wrap .u64 (wrap .i64 (a2_ + a4_))) (2 ^ (min (toNat 1) Zb)))) + a3_)) - r50_))))
 (.t (decide ((wrap .i64 ((wrap .i64 ((wrap .i64 (Int.fdiv (wrap .u64 (wrap .i64 (a2_ + a4_))) (2 ^ (min (toNat 1) Zb)))) + a3_)) - r50_)) < a4_))
 (.c Yc (rec_ (wrap .i64 (Int.fdiv (wrap .u64 (wrap .i64 (a2_ + a4_))) (2 ^ (min (toNat 1) Zb)))) (wrap .i64 ((wrap .i64 ((wrap .i64 (Int.fdiv (wrap .u64 (wrap .i64 (a2_ + a4_))) (2 ^ (min (toNat 1) Zb)))) + a3_)) - r50_)) a4_ a5_ r60_) fun r61_ =>
 .l r61_)
 (.l r60_))
 (.l r60_))
 (.t (decide ((wrap .i64 (Int.fdiv (wrap .u64 (wrap .i64 (a2_ + a4_))) (2 ^ (min (toNat 1) Zb)))) < (wrap .i64 ((wrap .i64 ((wrap .i64 (Int.fdiv (wrap .u64 (wrap .i64 (a2_ + a4_))) (2 ^ (min (toNat 1) Zb)))) + a3_)) - r50_))))
 (.t (decide ((wrap .i64 ((wrap .i64 ((wrap .i64 (Int.fdiv (wrap .u64 (wrap .i64 (a2_ + a4_))) (2 ^ (min (toNat 1) Zb)))) + a3_)) - r50_)) < a4_))
 (.c Yc (rec_ (wrap .i64 (Int.fdiv (wrap .u64 (wrap .i64 (a2_ + a4_))) (2 ^ (min (toNat 1) Zb)))) (wrap .i64 ((wrap .i64 ((wrap .i64 (Int.fdiv (wrap .u64 (wrap .i64 (a2_ + a4_))) (2 ^ (min (toNat 1) Zb)))) + a3_)) - r50_)) a4_ a5_ a1_) fun r62_ =>
 .l r62_)
 (.l a1_))
 (.l a1_)))
 (.t (decide ((wrap .i64 (Int.fdiv (wrap .u64 (wrap .i64 (a2_ + a4_))) (2 ^ (min (toNat 1) Zb)))) < (wrap .i64 ((wrap .i64 ((wrap .i64 (Int.fdiv (wrap .u64 (wrap .i64 (a2_ + a4_))) (2 ^ (min (toNat 1) Zb)))) + a3_)) - r50_))))
 (.t (decide ((wrap .i64 ((wrap .i64 ((wrap .i64 (Int.fdiv (wrap .u64 (wrap .i64 (a2_ + a4_))) (2 ^ (min (toNat 1) Zb)))) + a3_)) - r50_)) < a4_))
 (.c Yc (rec_ (wrap .i64 (Int.fdiv (wrap .u64 (wrap .i64 (a2_ + a4_))) (2 ^ (min (toNat 1) Zb)))) (wrap .i64 ((wrap .i64 ((wrap .i64 (Int.fdiv (wrap .u64 (wrap .i64 (a2_ + a4_))) (2 ^ (min (toNat 1) Zb)))) + a3_)) - r50_)) a4_ a5_ a1_) fun r63_ =>
 .l r63_)
 (.l a1_))
 (.l a1_))))
 (.c (Int) (wie rec_ (a2_, (a3_, (a4_, (a5_, ((wrap .i64 (Int.fdiv (wrap .u64 (wrap .i64 (a2_ + a4_))) (2 ^ (min (toNat 1) Zb)))), ((wrap .i64 ((wrap .i64 (Int.fdiv (wrap .u64 (wrap .i64 (a2_ + a4_))) (2 ^ (min (toNat 1) Zb)))) + a3_)), ((wrap .i64 ((wrap .i64 ((wrap .i64 (Int.fdiv (wrap .u64 (wrap .i64 (a2_ + a4_))) (2 ^ (min (toNat 1) Zb)))) + a3_)) - 1)), a1_))))))) (a2_, a3_)) fun r64_ =>
 .t (decide (r64_ < a3_))
 (.t (decide (a3_ < (wrap .i64 ((wrap .i64 ((wrap .i64 (Int.fdiv (wrap .u64 (wrap .i64 (a2_ + a4_))) (2 ^ (min (toNat 1) Zb)))) + a3_)) - r64_))))
 (.c Yc (wss r64_ a3_ (wrap .i64 ((wrap .i64 ((wrap .i64 (Int.fdiv (wrap .u64 (wrap .i64 (a2_ + a4_))) (2 ^ (min (toNat 1) Zb)))) + a3_)) - r64_)) a5_ a1_) fun r65_ =>
 .t (decide (a2_ < r64_))
 (.t (decide (r64_ < (wrap .i64 (Int.fdiv (wrap .u64 (wrap .i64 (a2_ + a4_))) (2 ^ (min (toNat 1) Zb))))))
 (.c Yc (rec_ a2_ r64_ (wrap .i64 (Int.fdiv (wrap .u64 (wrap .i64 (a2_ + a4_))) (2 ^ (min (toNat 1) Zb)))) a5_ r65_) fun r66_ =>
 .t (decide ((wrap .i64 (Int.fdiv (wrap .u64 (wrap .i64 (a2_ + a4_))) (2 ^ (min (toNat 1) Zb)))) < (wrap .i64 ((wrap .i64 ((wrap .i64 (Int.fdiv (wrap .u64 (wrap .i64 (a2_ + a4_))) (2 ^ (min (toNat 1) Zb)))) + a3_)) - r64_))))
 (.t (decide ((wrap .i64 ((wrap .i64 ((wrap .i64 (Int.fdiv (wrap .u64 (wrap .i64 (a2_ + a4_))) (2 ^ (min (toNat 1) Zb)))) + a3_)) - r64_)) < a4_))
 (.c Yc (rec_ (wrap .i64 (Int.fdiv (wrap .u64 (wrap .i64 (a2_ + a4_))) (2 ^ (min (toNat 1) Zb)))) (wrap .i64 ((wrap .i64 ((wrap .i64 (Int.fdiv (wrap .u64 (wrap .i64 (a2_ + a4_))) (2 ^ (min (toNat 1) Zb)))) + a3_)) - r64_)) a4_ a5_ r66_) fun r67_ =>
 .l r67_)
 (.l r66_))
 (.l r66_))
 (.t (decide ((wrap .i64 (Int.fdiv (wrap .u64 (wrap .i64 (a2_ + a4_))) (2 ^ (min (toNat 1) Zb)))) < (wrap .i64 ((wrap .i64 ((wrap .i64 (Int.fdiv (wrap .u64 (wrap .i64 (a2_ + a4_))) (2 ^ (min (toNat 1) Zb)))) + a3_)) - r64_))))
 (.t (decide ((wrap .i64 ((wrap .i64 ((wrap .i64 (Int.fdiv (wrap .u64 (wrap .i64 (a2_ + a4_))) (2 ^ (min (toNat 1) Zb)))) + a3_)) - r64_)) < a4_))
 (.c Yc (rec_ (wrap .i64 (Int.fdiv (wrap .u64 (wrap .i64 (a2_ + a4_))) (2 ^ (min (toNat 1) Zb)))) (wrap .i64 ((wrap .i64 ((wrap .i64 (Int.fdiv (wrap .u64 (wrap .i64 (a2_ + a4_))) (2 ^ (min (toNat 1) Zb)))) + a3_)) - r64_)) a4_ a5_ r65_) fun r68_ =>
 .l r68_)
 (.l r65_))
 (.l r65_)))
 (.t (decide ((wrap .i64 (Int.fdiv (wrap .u64 (wrap .i64 (a2_ + a4_))) (2 ^ (min (toNat 1) Zb)))) < (wrap .i64 ((wrap .i64 ((wrap .i64 (Int.fdiv (wrap .u64 (wrap .i64 (a2_ + a4_))) (2 ^ (min (toNat 1) Zb)))) + a3_)) - r64_))))
 (.t (decide ((wrap .i64 ((wrap .i64 ((wrap .i64 (Int.fdiv (wrap .u64 (wrap .i64 (a2_ + a4_))) (2 ^ (min (toNat 1) Zb)))) + a3_)) - r64_)) < a4_))
 (.c Yc (rec_ (wrap .i64 (Int.fdiv (wrap .u64 (wrap .i64 (a2_ + a4_))) (2 ^ (min (toNat 1) Zb)))) (wrap .i64 ((wrap .i64 ((wrap .i64 (Int.fdiv (wrap .u64 (wrap .i64 (a2_ + a4_))) (2 ^ (min (toNat 1) Zb)))) + a3_)) - r64_)) a4_ a5_ r65_) fun r69_ =>
 .l r69_)
 (.l r65_))
 (.l r65_)))
 (.t (decide (a2_ < r64_))
 (.t (decide (r64_ < (wrap .i64 (Int.fdiv (wrap .u64 (wrap .i64 (a2_ + a4_))) (2 ^ (min (toNat 1) Zb))))))
 (.c Yc (rec_ a2_ r64_ (wrap .i64 (Int.fdiv (wrap .u64 (wrap .i64 (a2_ + a4_))) (2 ^ (min (toNat 1) Zb)))) a5_ a1_) fun r70_ =>
 .t (decide ((wrap .i64 (Int.fdiv (wrap .u64 (wrap .i64 (a2_ + a4_))) (2 ^ (min (toNat 1) Zb)))) < (wrap .i64 ((wrap .i64 ((wrap .i64 (Int.fdiv (wrap .u64 (wrap .i64 (a2_ + a4_))) (2 ^ (min (toNat 1) Zb)))) + a3_)) - r64_))))
 (.t (decide ((wrap .i64 ((wrap .i64 ((wrap .i64 (Int.fdiv (wrap .u64 (wrap .i64 (a2_ + a4_))) (2 ^ (min (toNat 1) Zb)))) + a3_)) - r64_)) < a4_))
 (.c Yc (rec_ (wrap .i64 (Int.fdiv (wrap .u64 (wrap .i64 (a2_ + a4_))) (2 ^ (min (toNat 1) Zb)))) (wrap .i64 ((wrap .i64 ((wrap .i64 (Int.fdiv (wrap .u64 (wrap .i64 (a2_ + a4_))) (2 ^ (min (toNat 1) Zb)))) + a3_)) - r64_)) a4_ a5_ r70_) fun r71_ =>
 .l r71_)
 (.l r70_))
 (.l r70_))
 (.t (decide ((wrap .i64 (Int.fdiv (wrap .u64 (wrap .i64 (a2_ + a4_))) (2 ^ (min (toNat 1) Zb)))) < (wrap .i64 ((wrap .i64 ((wrap .i64 (Int.fdiv (wrap .u64 (wrap .i64 (a2_ + a4_))) (2 ^ (min (toNat 1) Zb)))) + a3_)) - r64_))))
 (.t (decide ((wrap .i64 ((wrap .i64 ((wrap .i64 (Int.fdiv (wrap .u64 (wrap .i64 (a2_ + a4_))) (2 ^ (min (toNat 1) Zb)))) + a3_)) - r64_)) < a4_))
 (.c Yc (rec_ (wrap .i64 (Int.fdiv (wrap .u64 (wrap .i64 (a2_ + a4_))) (2 ^ (min (toNat 1) Zb)))) (wrap .i64 ((wrap .i64 ((wrap .i64 (Int.fdiv (wrap .u64 (wrap .i64 (a2_ + a4_))) (2 ^ (min (toNat 1) Zb)))) + a3_)) - r64_)) a4_ a5_ a1_) fun r72_ =>
 .l r72_)
 (.l a1_))
 (.l a1_)))
 (.t (decide ((wrap .i64 (Int.fdiv (wrap .u64 (wrap .i64 (a2_ + a4_))) (2 ^ (min (toNat 1) Zb)))) < (wrap .i64 ((wrap .i64 ((wrap .i64 (Int.fdiv (wrap .u64 (wrap .i64 (a2_ + a4_))) (2 ^ (min (toNat 1) Zb)))) + a3_)) - r64_))))
 (.t (decide ((wrap .i64 ((wrap .i64 ((wrap .i64 (Int.fdiv (wrap .u64 (wrap .i64 (a2_ + a4_))) (2 ^ (min (toNat 1) Zb)))) + a3_)) - r64_)) < a4_))
 (.c Yc (rec_ (wrap .i64 (Int.fdiv (wrap .u64 (wrap .i64 (a2_ + a4_))) (2 ^ (min (toNat 1) Zb)))) (wrap .i64 ((wrap .i64 ((wrap .i64 (Int.fdiv (wrap .u64 (wrap .i64 (a2_ + a4_))) (2 ^ (min (toNat 1) Zb)))) + a3_)) - r64_)) a4_ a5_ a1_) fun r73_ =>
 .l r73_)
 (.l a1_))
 (.l a1_))))
 (.t (decide (a2_ < r64_))
 (.t (decide (r64_ < (wrap .i64 (Int.fdiv (wrap .u64 (wrap .i64 (a2_ + a4_))) (2 ^ (min (toNat 1) Zb))))))
 (.c Yc (rec_ a2_ r64_ (wrap .i64 (Int.fdiv (wrap .u64 (wrap .i64 (a2_ + a4_))) (2 ^ (min (toNat 1) Zb)))) a5_ a1_) fun r74_ =>
 .t (decide ((wrap .i64 (Int.fdiv (wrap .u64 (wrap .i64 (a2_ + a4_))) (2 ^ (min (toNat 1) Zb)))) < (wrap .i64 ((wrap .i64 ((wrap .i64 (Int.fdiv (wrap .u64 (wrap .i64 (a2_ + a4_))) (2 ^ (min (toNat 1) Zb)))) + a3_)) - r64_))))
 (.t (decide ((wrap .i64 ((wrap .i64 ((wrap .i64 (Int.fdiv (wrap .u64 (wrap .i64 (a2_ + a4_))) (2 ^ (min (toNat 1) Zb)))) + a3_)) - r64_)) < a4_))
 (.c Yc (rec_ (wrap .i64 (Int.fdiv (wrap .u64 (wrap .i64 (a2_ + a4_))) (2 ^ (min (toNat 1) Zb)))) (wrap .i64 ((wrap .i64 ((wrap .i64 (Int.fdiv (wrap .u64 (wrap .i64 (a2_ + a4_))) (2 ^ (min (toNat 1) Zb)))) + a3_)) - r64_)) a4_ a5_ r74_) fun r75_ =>
 .l r75_)
 (.l r74_))
 (.l r74_))
 (.t (decide ((wrap .i64 (Int.fdiv (wrap .u64 (wrap .i64 (a2_ + a4_))) (2 ^ (min (toNat 1) Zb)))) < (wrap .i64 ((wrap .i64 ((wrap .i64 (Int.fdiv (wrap .u64 (wrap .i64 (a2_ + a4_))) (2 ^ (min (toNat 1) Zb)))) + a3_)) - r64_))))
 (.t (decide ((wrap .i64 ((wrap .i64 ((wrap .i64 (Int.fdiv (wrap .u64 (wrap .i64 (a2_ + a4_))) (2 ^ (min (toNat 1) Zb)))) + a3_)) - r64_)) < a4_))
 (.c Yc (rec_ (wrap .i64 (Int.fdiv (wrap .u64 (wrap .i64 (a2_ + a4_))) (2 ^ (min (toNat 1) Zb)))) (wrap .i64 ((wrap .i64 ((wrap .i64 (Int.fdiv (wrap .u64 (wrap .i64 (a2_ + a4_))) (2 ^ (min (toNat 1) Zb)))) + a3_)) - r64_)) a4_ a5_ a1_) fun r76_ =>
 .l r76_)
 (.l a1_))
 (.l a1_)))
 (.t (decide ((wrap .i64 (Int.fdiv (wrap .u64 (wrap .i64 (a2_ + a4_))) (2 ^ (min (toNat 1) Zb)))) < (wrap .i64 ((wrap .i64 ((wrap .i64 (Int.fdiv (wrap .u64 (wrap .i64 (a2_ + a4_))) (2 ^ (min (toNat 1) Zb)))) + a3_)) - r64_))))
 (.t (decide ((wrap .i64 ((wrap .i64 ((wrap .i64 (Int.fdiv (wrap .u64 (wrap .i64 (a2_ + a4_))) (2 ^ (min (toNat 1) Zb)))) + a3_)) - r64_)) < a4_))
 (.c Yc (rec_ (wrap .i64 (Int.fdiv (wrap .u64 (wrap .i64 (a2_ + a4_))) (2 ^ (min (toNat 1) Zb)))) (wrap .i64 ((wrap .i64 ((wrap .i64 (Int.fdiv (wrap .u64 (wrap .i64 (a2_ + a4_))) (2 ^ (min (toNat 1) Zb)))) + a3_)) - r64_)) a4_ a5_ a1_) fun r77_ =>
 .l r77_)
 (.l a1_))
 (.l a1_))))))
noncomputable def wek : Nat → (Int) → (Int) → (Int) → ((HL [(.pair (.pair yi yi) y1), (.pair (.pair yi yi) y1)] → Option (Int))) → Yc → Option Yc
 | 0 => fun _ _ _ _ _ => none
 | n + 1 => fun a2_ a3_ a4_ a5_ a1_ => (wagp (wek n) a2_ a3_ a4_ a5_ a1_).ev
noncomputable def wbpo : RetK := { acts := [], res := [], sh := .nil, obs := [(64, .arr 75 (.pair (.pair yi yi) y1))], pins := [(0, 0, 64)] }
noncomputable def wart (rec_ : (Int) → (Int) → (Int) → ((HL [(.pair (.pair yi yi) y1), (.pair (.pair yi yi) y1)] → Option (Int))) → Yc → Option Yc) : FD where
 A := (yj [.arr 64, .dat yi, .dat yi, .dat yi, .clo [(.pair (.pair yi yi) y1), (.pair (.pair yi yi) y1)] yi])
 ins := [(64, .arr 75 (.pair (.pair yi yi) y1))]
 lend := [.arg 0]
 R := List (Ye × Y1)
 F := fun x => rec_ x.1.2.1 x.1.2.2.1 x.1.2.2.2.1 x.1.2.2.2.2.1 x.2.1
 emb := fun r => ([], [(64, .arr 75 (.pair (.pair yi yi) y1) r)])
noncomputable def wayy (n : Nat) : FD := wart (wek n)
noncomputable def wvv (rec_ : (Int) → (Int) → (Int) → ((HL [(.pair (.pair yi yi) y1), (.pair (.pair yi yi) y1)] → Option (Int))) → Yc → Option Yc) : Env := wac [(139, wayu), (116, wart rec_)]
noncomputable def wvw (rec_ : (Int) → (Int) → (Int) → ((HL [(.pair (.pair yi yi) y1), (.pair (.pair yi yi) y1)] → Option (Int))) → Yc → Option Yc) : List (Nat × LD) := [(0, wzk rec_), (2, wzl rec_), (4, wzm rec_), (6, wzn rec_), (8, wzo rec_)]
noncomputable def wvx : Code := (f116.body).getD .skip
end Go.Proofs.Ytnagpmhaddfgmaa
