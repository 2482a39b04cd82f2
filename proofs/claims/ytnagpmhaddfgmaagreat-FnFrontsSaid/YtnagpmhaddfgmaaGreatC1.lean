/-
 The functions of the program that the claim reaches, told as typed functions. No conditions.
-/
import Derived.Test.YtnagpmhaddfgmaaGreatC3
import Derived.Test.YtnagpmhaddfgmaaGreatProg
namespace Go.Proofs.YtnagpmhaddfgmaaGreat
open Go.Proofs.Tryz
open List (length getD set)
open Int (toNat)
open IntKind (wrap)
noncomputable def wdh (k : Int × Yf) (v : Int × Yc) : Tr (Yaa ⊕ Yc) :=
 .t (decide (v.1 < k.2.2))
 (.g (inR (wrap .i64 (k.2.1 + v.1)) (length v.2)) <|
 .g (decide ((toNat (wrap .i64 (k.2.1 + v.1))) < length v.2)) <|
 .g (inR (wrap .i64 (k.1 + v.1)) (length v.2)) <|
 .g (decide ((toNat (wrap .i64 (k.1 + v.1))) < length v.2)) <|
 .g (inR (wrap .i64 (k.1 + v.1)) (length v.2)) <|
 .g (decide ((toNat (wrap .i64 (k.1 + v.1))) < length v.2)) <|
 .g (inR (wrap .i64 (k.2.1 + v.1)) (length (set v.2 (toNat (wrap .i64 (k.1 + v.1))) (getD v.2 (toNat (wrap .i64 (k.2.1 + v.1))) (((0 : Int), (0 : Int)), ([] : Y1)))))) <|
 .g (decide ((toNat (wrap .i64 (k.2.1 + v.1))) < length (set v.2 (toNat (wrap .i64 (k.1 + v.1))) (getD v.2 (toNat (wrap .i64 (k.2.1 + v.1))) (((0 : Int), (0 : Int)), ([] : Y1)))))) <|
 .l (.inl ((wrap .i64 (v.1 + 1)), (set (set v.2 (toNat (wrap .i64 (k.1 + v.1))) (getD v.2 (toNat (wrap .i64 (k.2.1 + v.1))) (((0 : Int), (0 : Int)), ([] : Y1)))) (toNat (wrap .i64 (k.2.1 + v.1))) (getD v.2 (toNat (wrap .i64 (k.1 + v.1))) (((0 : Int), (0 : Int)), ([] : Y1)))))))
 (.l (.inr v.2))
noncomputable def wdi (k : Int × Yf) (v : Int × Yc) : Option Yc := iter (fun v => (wdh k v).ev) v
noncomputable def wmk : LD := ⟨{ acts := [], S := { slots := [0, 1, 2, 3, 10], sh := (yj [.arr 64, .dat yi, .dat yi, .dat yi, .dat yi]), obs := [(64, .arr 167 (.pair (.pair yi yi) y1))] } }, [(0, { acts := [], S := { slots := [0], sh := Zan, obs := [(64, .arr 167 (.pair (.pair yi yi) y1))] } })], (yh [] .nil), Int × Yf, Int × Yc, List (Yf × Y1), fun k v => (((), (k.1, (k.2.1, (k.2.2, (v.1, ()))))), (v.2, ())), fun t => (t.1.2.1, (t.1.2.2.1, t.1.2.2.2.1)), fun t => (t.1.2.2.2.2.1, t.2.1), wdh, fun _ r => .l (.exit 0 (mkSt ({ slots := [0], sh := Zan, obs := [(64, .arr 167 (.pair (.pair yi yi) y1))] }) (((), ()), (r, ()))))⟩
noncomputable def waex (a2_ : Int) (a3_ : Int) (a4_ : Int) (_a5_ : (HL [(.pair (.pair yi yi) y1), (.pair (.pair yi yi) y1)] → Option (Int))) (a1_ : List (Yf × Y1)) : Tr Yc :=
 .c Yc (wdi (a2_, (a3_, a4_)) ((0 : Int), a1_)) fun r7_ =>
 .l r7_
noncomputable def wkc (a2_ : Int) (a3_ : Int) (a4_ : Int) (a5_ : (HL [(.pair (.pair yi yi) y1), (.pair (.pair yi yi) y1)] → Option (Int))) (a1_ : List (Yf × Y1)) : Option Yc := (waex a2_ a3_ a4_ a5_ a1_).ev
noncomputable def wawh : RetK := { acts := [], res := [], sh := .nil, obs := [(64, .arr 167 (.pair (.pair yi yi) y1))], pins := [(0, 0, 64)] }
noncomputable def waey : FD := yd (yj [.arr 64, .dat yi, .dat yi, .dat yi, .clo [(.pair (.pair yi yi) y1), (.pair (.pair yi yi) y1)] yi]) [(64, .arr 167 (.pair (.pair yi yi) y1))] [.arg 0] Yc (fun x => wkc x.1.2.1 x.1.2.2.1 x.1.2.2.2.1 x.1.2.2.2.2.1 x.2.1) (fun r => ([], [(64, .arr 167 (.pair (.pair yi yi) y1) r)]))
noncomputable def waez : Env := envOf []
noncomputable def wafa : List (Nat × LD) := [(0, wmk)]
noncomputable def wafb : Code := (f285.body).getD .skip
noncomputable def wbk (k : Int × ((HL [(.pair (.pair yi yi) y1), (.pair (.pair yi yi) y1)] → Option (Int)))) (v : Int × Yaa) : Tr ((Int × Yaa) ⊕ Yaa) :=
 .t (v.1 != v.2.1)
 (.t (decide (v.2.1 < v.1))
 (.c Yc (wkc (wrap .i64 (k.1 - v.1)) k.1 v.2.1 k.2 v.2.2) fun r6_ =>
 .l (.inl ((wrap .i64 (v.1 - v.2.1)), (v.2.1, r6_))))
 (.c Yc (wkc (wrap .i64 (k.1 - v.1)) (wrap .i64 ((wrap .i64 (k.1 + v.2.1)) - v.1)) v.1 k.2 v.2.2) fun r7_ =>
 .l (.inl (v.1, ((wrap .i64 (v.2.1 - v.1)), r7_)))))
 (.l (.inr (v.1, v.2.2)))
noncomputable def wkd (k : Int × ((HL [(.pair (.pair yi yi) y1), (.pair (.pair yi yi) y1)] → Option (Int)))) (v : Int × Yaa) : Option Yaa := iter (fun v => (wbk k v).ev) v
noncomputable def wml : LD := ⟨{ acts := [], S := { slots := [0, 2, 4, 10, 11], sh := (yj [.arr 64, .dat yi, .clo [(.pair (.pair yi yi) y1), (.pair (.pair yi yi) y1)] yi, .dat yi, .dat yi]), obs := [(64, .arr 167 (.pair (.pair yi yi) y1))] } }, [(0, { acts := [], S := { slots := [0, 2, 4, 10], sh := (yj [.arr 64, .dat yi, .clo [(.pair (.pair yi yi) y1), (.pair (.pair yi yi) y1)] yi, .dat yi]), obs := [(64, .arr 167 (.pair (.pair yi yi) y1))] } })], (yh [] .nil), Int × ((HL [(.pair (.pair yi yi) y1), (.pair (.pair yi yi) y1)] → Option (Int))), Int × Yaa, Int × Yc, fun k v => (((), (k.1, (k.2, (v.1, (v.2.1, ()))))), (v.2.2, ())), fun t => (t.1.2.1, t.1.2.2.1), fun t => (t.1.2.2.2.1, (t.1.2.2.2.2.1, t.2.1)), wbk, fun k r => .l (.exit 0 (mkSt ({ slots := [0, 2, 4, 10], sh := (yj [.arr 64, .dat yi, .clo [(.pair (.pair yi yi) y1), (.pair (.pair yi yi) y1)] yi, .dat yi]), obs := [(64, .arr 167 (.pair (.pair yi yi) y1))] }) (((), (k.1, (k.2, (r.1, ())))), (r.2, ()))))⟩
noncomputable def wafc (a2_ : Int) (a3_ : Int) (a4_ : Int) (a5_ : (HL [(.pair (.pair yi yi) y1), (.pair (.pair yi yi) y1)] → Option (Int))) (a1_ : List (Yf × Y1)) : Tr Yc :=
 .c Yaa (wkd (a3_, a5_) ((wrap .i64 (a3_ - a2_)), ((wrap .i64 (a4_ - a3_)), a1_))) fun r12_ =>
 .c Yc (wkc (wrap .i64 (a3_ - r12_.1)) a3_ r12_.1 a5_ r12_.2) fun r13_ =>
 .l r13_
noncomputable def wig (a2_ : Int) (a3_ : Int) (a4_ : Int) (a5_ : (HL [(.pair (.pair yi yi) y1), (.pair (.pair yi yi) y1)] → Option (Int))) (a1_ : List (Yf × Y1)) : Option Yc := (wafc a2_ a3_ a4_ a5_ a1_).ev
noncomputable def wawi : RetK := { acts := [], res := [], sh := .nil, obs := [(64, .arr 167 (.pair (.pair yi yi) y1))], pins := [(0, 0, 64)] }
noncomputable def wafd : FD := yd (yj [.arr 64, .dat yi, .dat yi, .dat yi, .clo [(.pair (.pair yi yi) y1), (.pair (.pair yi yi) y1)] yi]) [(64, .arr 167 (.pair (.pair yi yi) y1))] [.arg 0] Yc (fun x => wig x.1.2.1 x.1.2.2.1 x.1.2.2.2.1 x.1.2.2.2.2.1 x.2.1) (fun r => ([], [(64, .arr 167 (.pair (.pair yi yi) y1) r)]))
noncomputable def wafe : Env := envOf [(285, waey)]
noncomputable def waff : List (Nat × LD) := [(0, wml)]
noncomputable def wafg : Code := (f268.body).getD .skip
noncomputable def wdj (rec_ : (Int) → (Int) → (Int) → ((HL [(.pair (.pair yi yi) y1), (.pair (.pair yi yi) y1)] → Option (Int))) → Yc → Option Yc) (k : Int × (((HL [(.pair (.pair yi yi) y1), (.pair (.pair yi yi) y1)] → Option (Int))) × Yc)) (v : Int × Int) : Tr (Yf ⊕ (Int)) :=
 .t (decide (v.1 < v.2))
 (.g (decide ((0 : Int) ≤ (1 : Int))) <|
 .g (inR (wrap .i64 (Int.fdiv (wrap .u64 (wrap .i64 (v.1 + v.2))) (2 ^ (min (toNat 1) Zb)))) (length k.2.2)) <|
 .g (decide ((toNat (wrap .i64 (Int.fdiv (wrap .u64 (wrap .i64 (v.1 + v.2))) (2 ^ (min (toNat 1) Zb))))) < length k.2.2)) <|
 .g (inR k.1 (length k.2.2)) <|
 .g (decide ((toNat k.1) < length k.2.2)) <|
 .c (Int) (k.2.1 ((getD k.2.2 (toNat (wrap .i64 (Int.fdiv (wrap .u64 (wrap .i64 (v.1 + v.2))) (2 ^ (min (toNat 1) Zb))))) (((0 : Int), (0 : Int)), ([] : Y1))), ((getD k.2.2 (toNat k.1) (((0 : Int), (0 : Int)), ([] : Y1))), ()))) fun r6_ =>
 .t (decide (r6_ < 0))
 (.l (.inl ((wrap .i64 ((wrap .i64 (Int.fdiv (wrap .u64 (wrap .i64 (v.1 + v.2))) (2 ^ (min (toNat 1) Zb)))) + 1)), v.2)))
 (.l (.inl (v.1, (wrap .i64 (Int.fdiv (wrap .u64 (wrap .i64 (v.1 + v.2))) (2 ^ (min (toNat 1) Zb))))))))
 (.l (.inr v.1))
noncomputable def wke (rec_ : (Int) → (Int) → (Int) → ((HL [(.pair (.pair yi yi) y1), (.pair (.pair yi yi) y1)] → Option (Int))) → Yc → Option Yc) (k : Int × (((HL [(.pair (.pair yi yi) y1), (.pair (.pair yi yi) y1)] → Option (Int))) × Yc)) (v : Int × Int) : Option (Int) := iter (fun v => (wdj rec_ k v).ev) v
noncomputable def wmm (rec_ : (Int) → (Int) → (Int) → ((HL [(.pair (.pair yi yi) y1), (.pair (.pair yi yi) y1)] → Option (Int))) → Yc → Option Yc) : LD where
 head := { acts := [], S := { slots := [0, 1, 4, 10, 11], sh := (yj [.arr 64, .dat yi, .clo [(.pair (.pair yi yi) y1), (.pair (.pair yi yi) y1)] yi, .dat yi, .dat yi]), obs := [(64, .arr 167 (.pair (.pair yi yi) y1))] } }
 exits := [(0, { acts := [], S := { slots := [0, 1, 10], sh := Zah, obs := [(64, .arr 167 (.pair (.pair yi yi) y1))] } })]
 rets := (yh [] .nil)
 K := Int × (((HL [(.pair (.pair yi yi) y1), (.pair (.pair yi yi) y1)] → Option (Int))) × Yc)
 V := Int × (Int)
 R := Int
 join := fun k v => (((), (k.1, (k.2.1, (v.1, (v.2, ()))))), (k.2.2, ()))
 sk := fun t => (t.1.2.1, (t.1.2.2.1, t.2.1))
 sv := fun t => (t.1.2.2.2.1, t.1.2.2.2.2.1)
 step := wdj rec_
 leaf := fun k r => .l (.exit 0 (mkSt ({ slots := [0, 1, 10], sh := Zah, obs := [(64, .arr 167 (.pair (.pair yi yi) y1))] }) (((), (k.1, (r, ()))), (k.2.2, ()))))
noncomputable def wdk (rec_ : (Int) → (Int) → (Int) → ((HL [(.pair (.pair yi yi) y1), (.pair (.pair yi yi) y1)] → Option (Int))) → Yc → Option Yc) (k : Int) (v : Int × Yc) : Tr (Yaa ⊕ Yc) :=
 .t (decide (v.1 < (wrap .i64 (k - 1))))
 (.g (inR (wrap .i64 (v.1 + 1)) (length v.2)) <|
 .g (decide ((toNat (wrap .i64 (v.1 + 1))) < length v.2)) <|
 .g (inR v.1 (length v.2)) <|
 .g (decide ((toNat v.1) < length v.2)) <|
 .g (inR v.1 (length v.2)) <|
 .g (decide ((toNat v.1) < length v.2)) <|
 .g (inR (wrap .i64 (v.1 + 1)) (length (set v.2 (toNat v.1) (getD v.2 (toNat (wrap .i64 (v.1 + 1))) (((0 : Int), (0 : Int)), ([] : Y1)))))) <|
 .g (decide ((toNat (wrap .i64 (v.1 + 1))) < length (set v.2 (toNat v.1) (getD v.2 (toNat (wrap .i64 (v.1 + 1))) (((0 : Int), (0 : Int)), ([] : Y1)))))) <|
 .l (.inl ((wrap .i64 (v.1 + 1)), (set (set v.2 (toNat v.1) (getD v.2 (toNat (wrap .i64 (v.1 + 1))) (((0 : Int), (0 : Int)), ([] : Y1)))) (toNat (wrap .i64 (v.1 + 1))) (getD v.2 (toNat v.1) (((0 : Int), (0 : Int)), ([] : Y1)))))))
 (.l (.inr v.2))
noncomputable def wdl (rec_ : (Int) → (Int) → (Int) → ((HL [(.pair (.pair yi yi) y1), (.pair (.pair yi yi) y1)] → Option (Int))) → Yc → Option Yc) (k : Int) (v : Int × Yc) : Option Yc := iter (fun v => (wdk rec_ k v).ev) v
noncomputable def wmn (rec_ : (Int) → (Int) → (Int) → ((HL [(.pair (.pair yi yi) y1), (.pair (.pair yi yi) y1)] → Option (Int))) → Yc → Option Yc) : LD where
 head := { acts := [], S := { slots := [0, 10, 13], sh := Zah, obs := [(64, .arr 167 (.pair (.pair yi yi) y1))] } }
 exits := [(2, { acts := [], S := { slots := [0], sh := Zan, obs := [(64, .arr 167 (.pair (.pair yi yi) y1))] } })]
 rets := (yh [] .nil)
 K := Int
 V := Int × Yc
 R := List (Yf × Y1)
 join := fun k v => (((), (k, (v.1, ()))), (v.2, ()))
 sk := fun t => t.1.2.1
 sv := fun t => (t.1.2.2.1, t.2.1)
 step := wdk rec_
 leaf := fun _ r => .l (.exit 2 (mkSt ({ slots := [0], sh := Zan, obs := [(64, .arr 167 (.pair (.pair yi yi) y1))] }) (((), ()), (r, ()))))
noncomputable def wdm (rec_ : (Int) → (Int) → (Int) → ((HL [(.pair (.pair yi yi) y1), (.pair (.pair yi yi) y1)] → Option (Int))) → Yc → Option Yc) (k : Int × (((HL [(.pair (.pair yi yi) y1), (.pair (.pair yi yi) y1)] → Option (Int))) × Yc)) (v : Int × Int) : Tr (Yf ⊕ (Int)) :=
 .t (decide (v.1 < v.2))
 (.g (decide ((0 : Int) ≤ (1 : Int))) <|
 .g (inR k.1 (length k.2.2)) <|
 .g (decide ((toNat k.1) < length k.2.2)) <|
 .g (inR (wrap .i64 (Int.fdiv (wrap .u64 (wrap .i64 (v.1 + v.2))) (2 ^ (min (toNat 1) Zb)))) (length k.2.2)) <|
 .g (decide ((toNat (wrap .i64 (Int.fdiv (wrap .u64 (wrap .i64 (v.1 + v.2))) (2 ^ (min (toNat 1) Zb))))) < length k.2.2)) <|
 .c (Int) (k.2.1 ((getD k.2.2 (toNat k.1) (((0 : Int), (0 : Int)), ([] : Y1))), ((getD k.2.2 (toNat (wrap .i64 (Int.fdiv (wrap .u64 (wrap .i64 (v.1 + v.2))) (2 ^ (min (toNat 1) Zb))))) (((0 : Int), (0 : Int)), ([] : Y1))), ()))) fun r21_ =>
 .t (!(decide (r21_ < 0)))
 (.l (.inl ((wrap .i64 ((wrap .i64 (Int.fdiv (wrap .u64 (wrap .i64 (v.1 + v.2))) (2 ^ (min (toNat 1) Zb)))) + 1)), v.2)))
 (.l (.inl (v.1, (wrap .i64 (Int.fdiv (wrap .u64 (wrap .i64 (v.1 + v.2))) (2 ^ (min (toNat 1) Zb))))))))
 (.l (.inr v.1))
noncomputable def wkf (rec_ : (Int) → (Int) → (Int) → ((HL [(.pair (.pair yi yi) y1), (.pair (.pair yi yi) y1)] → Option (Int))) → Yc → Option Yc) (k : Int × (((HL [(.pair (.pair yi yi) y1), (.pair (.pair yi yi) y1)] → Option (Int))) × Yc)) (v : Int × Int) : Option (Int) := iter (fun v => (wdm rec_ k v).ev) v
noncomputable def wmo (rec_ : (Int) → (Int) → (Int) → ((HL [(.pair (.pair yi yi) y1), (.pair (.pair yi yi) y1)] → Option (Int))) → Yc → Option Yc) : LD where
 head := { acts := [], S := { slots := [0, 2, 4, 14, 15], sh := (yj [.arr 64, .dat yi, .clo [(.pair (.pair yi yi) y1), (.pair (.pair yi yi) y1)] yi, .dat yi, .dat yi]), obs := [(64, .arr 167 (.pair (.pair yi yi) y1))] } }
 exits := [(4, { acts := [], S := { slots := [0, 2, 14], sh := Zah, obs := [(64, .arr 167 (.pair (.pair yi yi) y1))] } })]
 rets := (yh [] .nil)
 K := Int × (((HL [(.pair (.pair yi yi) y1), (.pair (.pair yi yi) y1)] → Option (Int))) × Yc)
 V := Int × (Int)
 R := Int
 join := fun k v => (((), (k.1, (k.2.1, (v.1, (v.2, ()))))), (k.2.2, ()))
 sk := fun t => (t.1.2.1, (t.1.2.2.1, t.2.1))
 sv := fun t => (t.1.2.2.2.1, t.1.2.2.2.2.1)
 step := wdm rec_
 leaf := fun k r => .l (.exit 4 (mkSt ({ slots := [0, 2, 14], sh := Zah, obs := [(64, .arr 167 (.pair (.pair yi yi) y1))] }) (((), (k.1, (r, ()))), (k.2.2, ()))))
noncomputable def wdo (rec_ : (Int) → (Int) → (Int) → ((HL [(.pair (.pair yi yi) y1), (.pair (.pair yi yi) y1)] → Option (Int))) → Yc → Option Yc) (k : Int) (v : Int × Yc) : Tr (Yaa ⊕ Yc) :=
 .t (decide (k < v.1))
 (.g (inR (wrap .i64 (v.1 - 1)) (length v.2)) <|
 .g (decide ((toNat (wrap .i64 (v.1 - 1))) < length v.2)) <|
 .g (inR v.1 (length v.2)) <|
 .g (decide ((toNat v.1) < length v.2)) <|
 .g (inR v.1 (length v.2)) <|
 .g (decide ((toNat v.1) < length v.2)) <|
 .g (inR (wrap .i64 (v.1 - 1)) (length (set v.2 (toNat v.1) (getD v.2 (toNat (wrap .i64 (v.1 - 1))) (((0 : Int), (0 : Int)), ([] : Y1)))))) <|
 .g (decide ((toNat (wrap .i64 (v.1 - 1))) < length (set v.2 (toNat v.1) (getD v.2 (toNat (wrap .i64 (v.1 - 1))) (((0 : Int), (0 : Int)), ([] : Y1)))))) <|
 .l (.inl ((wrap .i64 (v.1 - 1)), (set (set v.2 (toNat v.1) (getD v.2 (toNat (wrap .i64 (v.1 - 1))) (((0 : Int), (0 : Int)), ([] : Y1)))) (toNat (wrap .i64 (v.1 - 1))) (getD v.2 (toNat v.1) (((0 : Int), (0 : Int)), ([] : Y1)))))))
 (.l (.inr v.2))
noncomputable def wdp (rec_ : (Int) → (Int) → (Int) → ((HL [(.pair (.pair yi yi) y1), (.pair (.pair yi yi) y1)] → Option (Int))) → Yc → Option Yc) (k : Int) (v : Int × Yc) : Option Yc := iter (fun v => (wdo rec_ k v).ev) v
noncomputable def wmp (rec_ : (Int) → (Int) → (Int) → ((HL [(.pair (.pair yi yi) y1), (.pair (.pair yi yi) y1)] → Option (Int))) → Yc → Option Yc) : LD where
 head := { acts := [], S := { slots := [0, 14, 17], sh := Zah, obs := [(64, .arr 167 (.pair (.pair yi yi) y1))] } }
 exits := [(6, { acts := [], S := { slots := [0], sh := Zan, obs := [(64, .arr 167 (.pair (.pair yi yi) y1))] } })]
 rets := (yh [] .nil)
 K := Int
 V := Int × Yc
 R := List (Yf × Y1)
 join := fun k v => (((), (k, (v.1, ()))), (v.2, ()))
 sk := fun t => t.1.2.1
 sv := fun t => (t.1.2.2.1, t.2.1)
 step := wdo rec_
 leaf := fun _ r => .l (.exit 6 (mkSt ({ slots := [0], sh := Zan, obs := [(64, .arr 167 (.pair (.pair yi yi) y1))] }) (((), ()), (r, ()))))
noncomputable def wdq (rec_ : (Int) → (Int) → (Int) → ((HL [(.pair (.pair yi yi) y1), (.pair (.pair yi yi) y1)] → Option (Int))) → Yc → Option Yc) (k : Int × (Int × (Int × (((HL [(.pair (.pair yi yi) y1), (.pair (.pair yi yi) y1)] → Option (Int))) × (Int × (Int × Yaa)))))) (v : Int × Int) : Tr (Yf ⊕ (Int)) :=
 .t (decide (v.1 < v.2))
 (.g (decide ((0 : Int) ≤ (1 : Int))) <|
 .g (inR (wrap .i64 (k.2.2.2.2.2.2.1 - (wrap .i64 (Int.fdiv (wrap .u64 (wrap .i64 (v.1 + v.2))) (2 ^ (min (toNat 1) Zb)))))) (length k.2.2.2.2.2.2.2)) <|
 .g (decide ((toNat (wrap .i64 (k.2.2.2.2.2.2.1 - (wrap .i64 (Int.fdiv (wrap .u64 (wrap .i64 (v.1 + v.2))) (2 ^ (min (toNat 1) Zb))))))) < length k.2.2.2.2.2.2.2)) <|
 .g (inR (wrap .i64 (Int.fdiv (wrap .u64 (wrap .i64 (v.1 + v.2))) (2 ^ (min (toNat 1) Zb)))) (length k.2.2.2.2.2.2.2)) <|
 .g (decide ((toNat (wrap .i64 (Int.fdiv (wrap .u64 (wrap .i64 (v.1 + v.2))) (2 ^ (min (toNat 1) Zb))))) < length k.2.2.2.2.2.2.2)) <|
 .c (Int) (k.2.2.2.1 ((getD k.2.2.2.2.2.2.2 (toNat (wrap .i64 (k.2.2.2.2.2.2.1 - (wrap .i64 (Int.fdiv (wrap .u64 (wrap .i64 (v.1 + v.2))) (2 ^ (min (toNat 1) Zb))))))) (((0 : Int), (0 : Int)), ([] : Y1))), ((getD k.2.2.2.2.2.2.2 (toNat (wrap .i64 (Int.fdiv (wrap .u64 (wrap .i64 (v.1 + v.2))) (2 ^ (min (toNat 1) Zb))))) (((0 : Int), (0 : Int)), ([] : Y1))), ()))) fun r41_ =>
 .t (!(decide (r41_ < 0)))
 (.l (.inl ((wrap .i64 ((wrap .i64 (Int.fdiv (wrap .u64 (wrap .i64 (v.1 + v.2))) (2 ^ (min (toNat 1) Zb)))) + 1)), v.2)))
 (.l (.inl (v.1, (wrap .i64 (Int.fdiv (wrap .u64 (wrap .i64 (v.1 + v.2))) (2 ^ (min (toNat 1) Zb))))))))
 (.l (.inr v.1))
noncomputable def wbw (rec_ : (Int) → (Int) → (Int) → ((HL [(.pair (.pair yi yi) y1), (.pair (.pair yi yi) y1)] → Option (Int))) → Yc → Option Yc) (k : Int × (Int × (Int × (((HL [(.pair (.pair yi yi) y1), (.pair (.pair yi yi) y1)] → Option (Int))) × (Int × (Int × Yaa)))))) (v : Int × Int) : Option (Int) := iter (fun v => (wdq rec_ k v).ev) v
noncomputable def wmq (rec_ : (Int) → (Int) → (Int) → ((HL [(.pair (.pair yi yi) y1), (.pair (.pair yi yi) y1)] → Option (Int))) → Yc → Option Yc) : LD where
 head := { acts := [], S := { slots := [0, 1, 2, 3, 4, 18, 19, 20, 21, 22], sh := (yj [.arr 64, .dat yi, .dat yi, .dat yi, .clo [(.pair (.pair yi yi) y1), (.pair (.pair yi yi) y1)] yi, .dat yi, .dat yi, .dat yi, .dat yi, .dat yi]), obs := [(64, .arr 167 (.pair (.pair yi yi) y1))] } }
 exits := [(8, { acts := [], S := { slots := [0, 1, 2, 3, 4, 18, 19, 20], sh := (yj [.arr 64, .dat yi, .dat yi, .dat yi, .clo [(.pair (.pair yi yi) y1), (.pair (.pair yi yi) y1)] yi, .dat yi, .dat yi, .dat yi]), obs := [(64, .arr 167 (.pair (.pair yi yi) y1))] } })]
 rets := (yh [] .nil)
 K := Int × (Int × (Int × (((HL [(.pair (.pair yi yi) y1), (.pair (.pair yi yi) y1)] → Option (Int))) × (Int × (Int × Yaa)))))
 V := Int × (Int)
 R := Int
 join := fun k v => (((), (k.1, (k.2.1, (k.2.2.1, (k.2.2.2.1, (k.2.2.2.2.1, (k.2.2.2.2.2.1, (v.1, (v.2, (k.2.2.2.2.2.2.1, ())))))))))), (k.2.2.2.2.2.2.2, ()))
 sk := fun t => (t.1.2.1, (t.1.2.2.1, (t.1.2.2.2.1, (t.1.2.2.2.2.1, (t.1.2.2.2.2.2.1, (t.1.2.2.2.2.2.2.1, (t.1.2.2.2.2.2.2.2.2.2.1, t.2.1)))))))
 sv := fun t => (t.1.2.2.2.2.2.2.2.1, t.1.2.2.2.2.2.2.2.2.1)
 step := wdq rec_
 leaf := fun k r => .l (.exit 8 (mkSt ({ slots := [0, 1, 2, 3, 4, 18, 19, 20], sh := (yj [.arr 64, .dat yi, .dat yi, .dat yi, .clo [(.pair (.pair yi yi) y1), (.pair (.pair yi yi) y1)] yi, .dat yi, .dat yi, .dat yi]), obs := [(64, .arr 167 (.pair (.pair yi yi) y1))] }) (((), (k.1, (k.2.1, (k.2.2.1, (k.2.2.2.1, (k.2.2.2.2.1, (k.2.2.2.2.2.1, (r, ())))))))), (k.2.2.2.2.2.2.2, ()))))
noncomputable def wqx (rec_ : (Int) → (Int) → (Int) → ((HL [(.pair (.pair yi yi) y1), (.pair (.pair yi yi) y1)] → Option (Int))) → Yc → Option Yc) (a2_ : Int) (a3_ : Int) (a4_ : Int) (a5_ : (HL [(.pair (.pair yi yi) y1), (.pair (.pair yi yi) y1)] → Option (Int))) (a1_ : List (Yf × Y1)) : Tr Yc :=
 .t ((wrap .i64 (a3_ - a2_)) == (1 : Int))
 (.c (Int) (wke rec_ (a2_, (a5_, a1_)) (a3_, a4_)) fun r10_ =>
 .c Yc (wdl rec_ r10_ (a2_, a1_)) fun r15_ =>
 .l r15_)
 (.t ((wrap .i64 (a4_ - a3_)) == (1 : Int))
 (.c (Int) (wkf rec_ (a3_, (a5_, a1_)) (a2_, a3_)) fun r25_ =>
 .c Yc (wdp rec_ r25_ (a3_, a1_)) fun r30_ =>
 .l r30_)
 (.g (decide ((0 : Int) ≤ (1 : Int))) <|
 .t (decide ((wrap .i64 (Int.fdiv (wrap .u64 (wrap .i64 (a2_ + a4_))) (2 ^ (min (toNat 1) Zb)))) < a3_))
 (.c (Int) (wbw rec_ (a2_, (a3_, (a4_, (a5_, ((wrap .i64 (Int.fdiv (wrap .u64 (wrap .i64 (a2_ + a4_))) (2 ^ (min (toNat 1) Zb)))), ((wrap .i64 ((wrap .i64 (Int.fdiv (wrap .u64 (wrap .i64 (a2_ + a4_))) (2 ^ (min (toNat 1) Zb)))) + a3_)), ((wrap .i64 ((wrap .i64 ((wrap .i64 (Int.fdiv (wrap .u64 (wrap .i64 (a2_ + a4_))) (2 ^ (min (toNat 1) Zb)))) + a3_)) - 1)), a1_))))))) ((wrap .i64 ((wrap .i64 ((wrap .i64 (Int.fdiv (wrap .u64 (wrap .i64 (a2_ + a4_))) (2 ^ (min (toNat 1) Zb)))) + a3_)) - a4_)), (wrap .i64 (Int.fdiv (wrap .u64 (wrap .i64 (a2_ + a4_))) (2 ^ (min (toNat 1) Zb)))))) fun r50_ =>
 .t (decide (r50_ < a3_))
 (.t (decide (a3_ < (wrap .i64 ((wrap .i64 ((wrap .i64 (Int.fdiv (wrap .u64 (wrap .i64 (a2_ + a4_))) (2 ^ (min (toNat 1) Zb)))) + a3_)) - r50_))))
 (.c Yc (wig r50_ a3_ (wrap .i64 ((wrap .i64 ((wrap .i64 (Int.fdiv (wrap .u64 (wrap .i64 (a2_ + a4_))) (2 ^ (min (toNat 1) Zb)))) + a3_)) - r50_)) a5_ a1_) fun r51_ =>
 .t (decide (a2_ < r50_))
 (.t (decide (r50_ < (wrap .i64 (Int.fdiv (wrap .u64 (wrap .i64 (a2_ + a4_))) (2 ^ (min (toNat 1) Zb))))))
 (.c Yc (rec_ a2_ r50_ (wrap .i64 (Int.fdiv (wrap .u64 (wrap .i64 (a2_ + a4_))) (2 ^ (min (toNat 1) Zb)))) a5_ r51_) fun r52_ =>
 .t (decide ((wrap .i64 (Int.fdiv (wrap .u64 (wrap .i64 (a2_ + a4_))) (2 ^ (min (toNat 1) Zb)))) < (wrap .i64 ((wrap .i64 ((wrap .i64 (Int.fdiv (wrap .u64 (wrap .i64 (a2_ + a4_))) (2 ^ (min (toNat 1) Zb)))) + a3_)) - r50_))))
 (.t (decide ((wrap .i64 ((wrap .i64 ((wrap .i64 (Int.fdiv (wrap .u64 (wrap .i64 (a2_ + a4_))) (2 ^ (min (toNat 1) Zb)))) + a3_)) - r50_)) < a4_))
 (.c Yc (rec_ (wrap .i64 (Int.fdiv (wrap .u64 (wrap .i64 (a2_ + a4_))) (2 ^ (min (toNat 1) Zb)))) (wrap .i64 ((wrap .i64 ((wrap .i64 (Int.fdiv (wrap .u64 (wrap .i64 (a2_ + a4_))) (2 ^ (min (toNat 1) Zb)))) + a3_)) - r50_)) a4_ a5_ r52_) fun r53_ =>
 .l r53_)
 (.l r52_))
 (.l r52_))
 (.t (decide ((wrap .i64 (Int.fdiv (wrap .u64 (wrap .i64 (a2_ + a4_))) (2 ^ (min (toNat 1) Zb)))) < (wrap .i64 ((wrap .i64 ((wrap .i64 (Int.fdiv (wrap .u64 (wrap .i64 (a2_ + a4_))) (2 ^ (min (toNat 1) Zb)))) + a3_)) - r50_))))
 (.t (decide ((wrap .i64 ((wrap .i64 ((wrap .i64 (Int.fdiv (wrap .u64 (wrap .i64 (a2_ + a4_))) (2 ^ (min (toNat 1) Zb)))) + a3_)) - r50_)) < a4_))
 (.c Yc (rec_ (wrap .i64 (Int.fdiv (wrap .u64 (wrap .i64 (a2_ + a4_))) (2 ^ (min (toNat 1) Zb)))) (wrap .i64 ((wrap .i64 ((wrap .i64 (Int.fdiv (wrap .u64 (wrap .i64 (a2_ + a4_))) (2 ^ (min (toNat 1) Zb)))) + a3_)) - r50_)) a4_ a5_ r51_) fun r54_ =>
 .l r54_)
 (.l r51_))
 (.l r51_)))
 (.t (decide ((wrap .i64 (Int.fdiv (wrap .u64 (wrap .i64 (a2_ + a4_))) (2 ^ (min (toNat 1) Zb)))) < (wrap .i64 ((wrap .i64 ((wrap .i64 (Int.fdiv (wrap .u64 (wrap .i64 (a2_ + a4_))) (2 ^ (min (toNat 1) Zb)))) + a3_)) - r50_))))
 (.t (decide ((wrap .i64 ((wrap .i64 ((wrap .i64 (Int.fdiv (wrap .u64 (wrap .i64 (a2_ + a4_))) (2 ^ (min (toNat 1) Zb)))) + a3_)) - r50_)) < a4_))
 (.c Yc (rec_ (wrap .i64 (Int.fdiv (wrap .u64 (wrap .i64 (a2_ + a4_))) (2 ^ (min (toNat 1) Zb)))) (wrap .i64 ((wrap .i64 ((wrap .i64 (Int.fdiv (wrap .u64 (wrap .i64 (a2_ + a4_))) (2 ^ (min (toNat 1) Zb)))) + a3_)) - r50_)) a4_ a5_ r51_) fun r55_ =>
 .l r55_)
 (.l r51_))
 (.l r51_)))
 (.t (decide (a2_ < r50_))
 (.t (decide (r50_ < (wrap .i64 (Int.fdiv (wrap .u64 (wrap .i64 (a2_ + a4_))) (2 ^ (min (toNat 1) Zb))))))
 (.c Yc (rec_ a2_ r50_ (wrap .i64 (Int.fdiv (wrap .u64 (wrap .i64 (a2_ + a4_))) (2 ^ (min (toNat 1) Zb)))) a5_ a1_) fun r56_ =>
 .t (decide ((wrap .i64 (Int.fdiv (wrap .u64 (wrap .i64 (a2_ + a4_))) (2 ^ (min (toNat 1) Zb)))) < (wrap .i64 ((wrap .i64 ((wrap .i64 (Int.fdiv (wrap .u64 (wrap .i64 (a2_ + a4_))) (2 ^ (min (toNat 1) Zb)))) + a3_)) - r50_))))
 (.t (decide ((wrap .i64 ((wrap .i64 ((wrap .i64 (Int.fdiv (wrap .u64 (wrap .i64 (a2_ + a4_))) (2 ^ (min (toNat 1) Zb)))) + a3_)) - r50_)) < a4_))
 (.c Yc (rec_ (wrap .i64 (Int.fdiv (wrap .u64 (wrap .i64 (a2_ + a4_))) (2 ^ (min (toNat 1) Zb)))) (wrap .i64 ((wrap .i64 ((wrap .i64 (Int.fdiv (wrap .u64 (wrap .i64 (a2_ + a4_))) (2 ^ (min (toNat 1) Zb)))) + a3_)) - r50_)) a4_ a5_ r56_) fun r57_ =>
 .l r57_)
 (.l r56_))
 (.l r56_))
 (.t (decide ((wrap .i64 (Int.fdiv (wrap .u64 (wrap .i64 (a2_ + a4_))) (2 ^ (min (toNat 1) Zb)))) < (wrap .i64 ((wrap .i64 ((wrap .i64 (Int.fdiv (wrap .u64 (wrap .i64 (a2_ + a4_))) (2 ^ (min (toNat 1) Zb)))) + a3_)) - r50_))))
 (.t (decide ((wrap .i64 ((wrap .i64 ((wrap .i64 (Int.fdiv (wrap .u64 (wrap .i64 (a2_ + a4_))) (2 ^ (min (toNat 1) Zb)))) + a3_)) - r50_)) < a4_))
 (.c Yc (rec_ (wrap .i64 (Int.fdiv (wrap .u64 (wrap .i64 (a2_ + a4_))) (2 ^ (min (toNat 1) Zb)))) (wrap .i64 ((wrap .i64 ((wrap .i64 (Int.fdiv (wrap .u64 (wrap .i64 (a2_ + a4_))) (2 ^ (min (toNat 1) Zb)))) + a3_)) - r50_)) a4_ a5_ a1_) fun r58_ =>
 .l r58_)
 (.l a1_))
 (.l a1_)))
 (.t (decide ((wrap .i64 (Int.fdiv (wrap .u64 (wrap .i64 (a2_ + a4_))) (2 ^ (min (toNat 1) Zb)))) < (wrap .i64 ((wrap .i64 ((wrap .i64 (Int.fdiv (wrap .u64 (wrap .i64 (a2_ + a4_))) (2 ^ (min (toNat 1) Zb)))) + a3_)) - r50_))))
 (.t (decide ((wrap .i64 ((wrap .i64 ((wrap .i64 (Int.fdiv (wrap .u64 (wrap .i64 (a2_ + a4_))) (2 ^ (min (toNat 1) Zb)))) + a3_)) - r50_)) < a4_))
 (.c Yc (rec_ (wrap .i64 (Int.fdiv (wrap .u64 (wrap .i64 (a2_ + a4_))) (2 ^ (min (toNat 1) Zb)))) (wrap .i64 ((wrap .i64 ((wrap .i64 (Int.fdiv (wrap .u64 (wrap .i64 (a2_ + a4_))) (2 ^ (min (toNat 1) Zb)))) + a3_)) - r50_)) a4_ a5_ a1_) fun r59_ =>
 .l r59_)
 (.l a1_))
 (.l a1_))))
 (.t (decide (a2_ < r50_))
 (.t (decide (r50_ < (wrap .i64 (Int.fdiv (wrap .u64 (wrap .i64 (a2_ + a4_))) (2 ^ (min (toNat 1) Zb))))))
 (.c Yc (rec_ a2_ r50_ (wrap .i64 (Int.fdiv (wrap .u64 (wrap .i64 (a2_ + a4_))) (2 ^ (min (toNat 1) Zb)))) a5_ a1_) fun r60_ =>
 .t (decide ((wrap .i64 (Int.fdiv (wrap .u64 (wrap .i64 (a2_ + a4_))) (2 ^ (min (toNat 1) Zb)))) < (wrap .i64 ((wrap .i64 ((wrap .i64 (Int.fdiv (wrap .u64 (wrap .i64 (a2_ + a4_))) (2 ^ (min (toNat 1) Zb)))) + a3_)) - r50_))))
 (.t (decide ((wrap .i64 ((wrap .i64 ((wrap .i64 (Int.fdiv (wrap .u64 (wrap .i64 (a2_ + a4_))) (2 ^ (min (toNat 1) Zb)))) + a3_)) - r50_)) < a4_))
 (.c Yc (rec_ (wrap .i64 (Int.fdiv (wrap .u64 (wrap .i64 (a2_ + a4_))) (2 ^ (min (toNat 1) Zb)))) (wrap .i64 ((wrap .i64 ((wrap .i64 (Int.fdiv (wrap .u64 (wrap .i64 (a2_ + a4_))) (2 ^ (min (toNat 1) Zb)))) + a3_)) - r50_)) a4_ a5_ r60_) fun r61_ =>
 .l r61_)
 (.l r60_))
 (.l r60_))
 (.t (decide ((wrap .i64 (Int.fdiv (wrap .u64 (wrap .i64 (a2_ + a4_))) (2 ^ (min (toNat 1) Zb)))) < (wrap .i64 ((wrap .i64 ((wrap .i64 (Int.fdiv (wrap .u64 (wrap .i64 (a2_ + a4_))) (2 ^ (min (toNat 1) Zb)))) + a3_)) - r50_))))
 (.t (decide ((wrap .i64 ((wrap .i64 ((wrap .i64 (Int.fdiv (wrap .u64 (wrap .i64 (a2_ + a4_))) (2 ^ (min (toNat 1) Zb)))) + a3_)) - r50_)) < a4_))
 (.c Yc (rec_ (wrap .i64 (Int.fdiv (wrap .u64 (wrap .i64 (a2_ + a4_))) (2 ^ (min (toNat 1) Zb)))) (wrap .i64 ((wrap .i64 ((wrap .i64 (Int.fdiv (wrap .u64 (wrap .i64 (a2_ + a4_))) (2 ^ (min (toNat 1) Zb)))) + a3_)) - r50_)) a4_ a5_ a1_) fun r62_ =>
 .l r62_)
 (.l a1_))
 (.l a1_)))
 (.t (decide ((wrap .i64 (Int.fdiv (wrap .u64 (wrap .i64 (a2_ + a4_))) (2 ^ (min (toNat 1) Zb)))) < (wrap .i64 ((wrap .i64 ((wrap .i64 (Int.fdiv (wrap .u64 (wrap .i64 (a2_ + a4_))) (2 ^ (min (toNat 1) Zb)))) + a3_)) - r50_))))
 (.t (decide ((wrap .i64 ((wrap .i64 ((wrap .i64 (Int.fdiv (wrap .u64 (wrap .i64 (a2_ + a4_))) (2 ^ (min (toNat 1) Zb)))) + a3_)) - r50_)) < a4_))
 (.c Yc (rec_ (wrap .i64 (Int.fdiv (wrap .u64 (wrap .i64 (a2_ + a4_))) (2 ^ (min (toNat 1) Zb)))) (wrap .i64 ((wrap .i64 ((wrap .i64 (Int.fdiv (wrap .u64 (wrap .i64 (a2_ + a4_))) (2 ^ (min (toNat 1) Zb)))) + a3_)) - r50_)) a4_ a5_ a1_) fun r63_ =>
 .l r63_)
 (.l a1_))
 (.l a1_))))
 (.c (Int) (wbw rec_ (a2_, (a3_, (a4_, (a5_, ((wrap .i64 (Int.fdiv (wrap .u64 (wrap .i64 (a2_ + a4_))) (2 ^ (min (toNat 1) Zb)))), ((wrap .i64 ((wrap .i64 (Int.fdiv (wrap .u64 (wrap .i64 (a2_ + a4_))) (2 ^ (min (toNat 1) Zb)))) + a3_)), ((wrap .i64 ((wrap .i64 ((wrap .i64 (Int.fdiv (wrap .u64 (wrap .i64 (a2_ + a4_))) (2 ^ (min (toNat 1) Zb)))) + a3_)) - 1)), a1_))))))) (a2_, a3_)) fun r64_ =>
 .t (decide (r64_ < a3_))
 (.t (decide (a3_ < (wrap .i64 ((wrap .i64 ((wrap .i64 (Int.fdiv (wrap .u64 (wrap .i64 (a2_ + a4_))) (2 ^ (min (toNat 1) Zb)))) + a3_)) - r64_))))
 (.c Yc (wig r64_ a3_ (wrap .i64 ((wrap .i64 ((wrap .i64 (Int.fdiv (wrap .u64 (wrap .i64 (a2_ + a4_))) (2 ^ (min (toNat 1) Zb)))) + a3_)) - r64_)) a5_ a1_) fun r65_ =>
 .t (decide (a2_ < r64_))
 (.t (decide (r64_ < (wrap .i64 (Int.fdiv (wrap .u64 (wrap .i64 (a2_ + a4_))) (2 ^ (min (toNat 1) Zb))))))
 (.c Yc (rec_ a2_ r64_ (wrap .i64 (Int.fdiv (wrap .u64 (wrap .i64 (a2_ + a4_))) (2 ^ (min (toNat 1) Zb)))) a5_ r65_) fun r66_ =>
 .t (decide ((wrap .i64 (Int.fdiv (wrap .u64 (wrap .i64 (a2_ + a4_))) (2 ^ (min (toNat 1) Zb)))) < (wrap .i64 ((wrap .i64 ((wrap .i64 (Int.fdiv (wrap .u64 (wrap .i64 (a2_ + a4_))) (2 ^ (min (toNat 1) Zb)))) + a3_)) - r64_))))
 (.t (decide ((wrap .i64 ((wrap .i64 ((wrap .i64 (Int.fdiv (wrap .u64 (wrap .i64 (a2_ + a4_))) (2 ^ (min (toNat 1) Zb)))) + a3_)) - r64_)) < a4_))
 (.c Yc (rec_ (wrap .i64 (Int.fdiv (wrap .u64 (wrap .i64 (a2_ + a4_))) (2 ^ (min (toNat 1) Zb)))) (wrap .i64 ((wrap .i64 ((wrap .i64 (Int.fdiv (wrap .u64 (wrap .i64 (a2_ + a4_))) (2 ^ (min (toNat 1) Zb)))) + a3_)) - r64_)) a4_ a5_ r66_) fun r67_ =>
 .l r67_)
 (.l r66_))
 (.l r66_))
 (.t (decide ((wrap .i64 (Int.fdiv (wrap .u64 (wrap .i64 (a2_ + a4_))) (2 ^ (min (toNat 1) Zb)))) < (wrap .i64 ((wrap .i64 ((wrap .i64 (Int.fdiv (wrap .u64 (wrap .i64 (a2_ + a4_))) (2 ^ (min (toNat 1) Zb)))) + a3_)) - r64_))))
 (.t (decide ((wrap .i64 ((wrap .i64 ((wrap .i64 (Int.fdiv (wrap .u64 (wrap .i64 (a2_ + a4_))) (2 ^ (min (toNat 1) Zb)))) + a3_)) - r64_)) < a4_))
 (.c Yc (rec_ (wrap .i64 (Int.fdiv (wrap .u64 (wrap .i64 (a2_ + a4_))) (2 ^ (min (toNat 1) Zb)))) (wrap .i64 ((wrap .i64 ((wrap .i64 (Int.fdiv (wrap .u64 (wrap .i64 (a2_ + a4_))) (2 ^ (min (toNat 1) Zb)))) + a3_)) - r64_)) a4_ a5_ r65_) fun r68_ =>
 .l r68_)
 (.l r65_))
 (.l r65_)))
 (.t (decide ((wrap .i64 (Int.fdiv (wrap .u64 (wrap .i64 (a2_ + a4_))) (2 ^ (min (toNat 1) Zb)))) < (wrap .i64 ((wrap .i64 ((wrap .i64 (Int.fdiv (wrap .u64 (wrap .i64 (a2_ + a4_))) (2 ^ (min (toNat 1) Zb)))) + a3_)) - r64_))))
 (.t (decide ((wrap .i64 ((wrap .i64 ((wrap .i64 (Int.fdiv (wrap .u64 (wrap .i64 (a2_ + a4_))) (2 ^ (min (toNat 1) Zb)))) + a3_)) - r64_)) < a4_))
 (.c Yc (rec_ (wrap .i64 (Int.fdiv (wrap .u64 (wrap .i64 (a2_ + a4_))) (2 ^ (min (toNat 1) Zb)))) (wrap .i64 ((wrap .i64 ((wrap .i64 (Int.fdiv (wrap .u64 (wrap .i64 (a2_ + a4_))) (2 ^ (min (toNat 1) Zb)))) + a3_)) - r64_)) a4_ a5_ r65_) fun r69_ =>
 .l r69_)
 (.l r65_))
 (.l r65_)))
 (.t (decide (a2_ < r64_))
 (.t (decide (r64_ < (wrap .i64 (Int.fdiv (wrap .u64 (wrap .i64 (a2_ + a4_))) (2 ^ (min (toNat 1) Zb))))))
 (.c Yc (rec_ a2_ r64_ (wrap .i64 (Int.fdiv (wrap .u64 (wrap .i64 (a2_ + a4_))) (2 ^ (min (toNat 1) Zb)))) a5_ a1_) fun r70_ =>
 .t (decide ((wrap .i64 (Int.fdiv (wrap .u64 (wrap .i64 (a2_ + a4_))) (2 ^ (min (toNat 1) Zb)))) < (wrap .i64 ((wrap .i64 ((wrap .i64 (Int.fdiv (wrap .u64 (wrap .i64 (a2_ + a4_))) (2 ^ (min (toNat 1) Zb)))) + a3_)) - r64_))))
 (.t (decide ((wrap .i64 ((wrap .i64 ((wrap .i64 (Int.fdiv (wrap .u64 (wrap .i64 (a2_ + a4_))) (2 ^ (min (toNat 1) Zb)))) + a3_)) - r64_)) < a4_))
 (.c Yc (rec_ (wrap .i64 (Int.fdiv (wrap .u64 (wrap .i64 (a2_ + a4_))) (2 ^ (min (toNat 1) Zb)))) (wrap .i64 ((wrap .i64 ((wrap .i64 (Int.fdiv (wrap .u64 (wrap .i64 (a2_ + a4_))) (2 ^ (min (toNat 1) Zb)))) + a3_)) - r64_)) a4_ a5_ r70_) fun r71_ =>
 .l r71_)
 (.l r70_))
 (.l r70_))
 (.t (decide ((wrap .i64 (Int.fdiv (wrap .u64 (wrap .i64 (a2_ + a4_))) (2 ^ (min (toNat 1) Zb)))) < (wrap .i64 ((wrap .i64 ((wrap .i64 (Int.fdiv (wrap .u64 (wrap .i64 (a2_ + a4_))) (2 ^ (min (toNat 1) Zb)))) + a3_)) - r64_))))
 (.t (decide ((wrap .i64 ((wrap .i64 ((wrap .i64 (Int.fdiv (wrap .u64 (wrap .i64 (a2_ + a4_))) (2 ^ (min (toNat 1) Zb)))) + a3_)) - r64_)) < a4_))
 (.c Yc (rec_ (wrap .i64 (Int.fdiv (wrap .u64 (wrap .i64 (a2_ + a4_))) (2 ^ (min (toNat 1) Zb)))) (wrap .i64 ((wrap .i64 ((wrap .i64 (Int.fdiv (wrap .u64 (wrap .i64 (a2_ + a4_))) (2 ^ (min (toNat 1) Zb)))) + a3_)) - r64_)) a4_ a5_ a1_) fun r72_ =>
 .l r72_)
 (.l a1_))
 (.l a1_)))
 (.t (decide ((wrap .i64 (Int.fdiv (wrap .u64 (wrap .i64 (a2_ + a4_))) (2 ^ (min (toNat 1) Zb)))) < (wrap .i64 ((wrap .i64 ((wrap .i64 (Int.fdiv (wrap .u64 (wrap .i64 (a2_ + a4_))) (2 ^ (min (toNat 1) Zb)))) + a3_)) - r64_))))
 (.t (decide ((wrap .i64 ((wrap .i64 ((wrap .i64 (Int.fdiv (wrap .u64 (wrap .i64 (a2_ + a4_))) (2 ^ (min (toNat 1) Zb)))) + a3_)) - r64_)) < a4_))
 (.c Yc (rec_ (wrap .i64 (Int.fdiv (wrap .u64 (wrap .i64 (a2_ + a4_))) (2 ^ (min (toNat 1) Zb)))) (wrap .i64 ((wrap .i64 ((wrap .i64 (Int.fdiv (wrap .u64 (wrap .i64 (a2_ + a4_))) (2 ^ (min (toNat 1) Zb)))) + a3_)) - r64_)) a4_ a5_ a1_) fun r73_ =>
 .l r73_)
 (.l a1_))
 (.l a1_))))
 (.t (decide (a2_ < r64_))
 (.t (decide (r64_ < (wrap .i64 (Int.fdiv (wrap .u64 (wrap .i64 (a2_ + a4_))) (2 ^ (min (toNat 1) Zb))))))
 (.c Yc (rec_ a2_ r64_ (wrap .i64 (Int.fdiv (wrap .u64 (wrap .i64 (a2_ + a4_))) (2 ^ (min (toNat 1) Zb)))) a5_ a1_) fun r74_ =>
 .t (decide ((wrap .i64 (Int.fdiv (wrap .u64 (wrap .i64 (a2_ + a4_))) (2 ^ (min (toNat 1) Zb)))) < (wrap .i64 ((wrap .i64 ((wrap .i64 (Int.fdiv (wrap .u64 (wrap .i64 (a2_ + a4_))) (2 ^ (min (toNat 1) Zb)))) + a3_)) - r64_))))
 (.t (decide ((wrap .i64 ((wrap .i64 ((wrap .i64 (Int.fdiv (wrap .u64 (wrap .i64 (a2_ + a4_))) (2 ^ (min (toNat 1) Zb)))) + a3_)) - r64_)) < a4_))
 (.c Yc (rec_ (wrap .i64 (Int.fdiv (wrap .u64 (wrap .i64 (a2_ + a4_))) (2 ^ (min (toNat 1) Zb)))) (wrap .i64 ((wrap .i64 ((wrap .i64 (Int.fdiv (wrap .u64 (wrap .i64 (a2_ + a4_))) (2 ^ (min (toNat 1) Zb)))) + a3_)) - r64_)) a4_ a5_ r74_) fun r75_ =>
 .l r75_)
 (.l r74_))
 (.l r74_))
 (.t (decide ((wrap .i64 (Int.fdiv (wrap .u64 (wrap .i64 (a2_ + a4_))) (2 ^ (min (toNat 1) Zb)))) < (wrap .i64 ((wrap .i64 ((wrap .i64 (Int.fdiv (wrap .u64 (wrap .i64 (a2_ + a4_))) (2 ^ (min (toNat 1) Zb)))) + a3_)) - r64_))))
 (.t (decide ((wrap .i64 ((wrap .i64 ((wrap .i64 (Int.fdiv (wrap .u64 (wrap .i64 (a2_ + a4_))) (2 ^ (min (toNat 1) Zb)))) + a3_)) - r64_)) < a4_))
 (.c Yc (rec_ (wrap .i64 (Int.fdiv (wrap .u64 (wrap .i64 (a2_ + a4_))) (2 ^ (min (toNat 1) Zb)))) (wrap .i64 ((wrap .i64 ((wrap .i64 (Int.fdiv (wrap .u64 (wrap .i64 (a2_ + a4_))) (2 ^ (min (toNat 1) Zb)))) + a3_)) - r64_)) a4_ a5_ a1_) fun r76_ =>
 .l r76_)
 (.l a1_))
 (.l a1_)))
 (.t (decide ((wrap .i64 (Int.fdiv (wrap .u64 (wrap .i64 (a2_ + a4_))) (2 ^ (min (toNat 1) Zb)))) < (wrap .i64 ((wrap .i64 ((wrap .i64 (Int.fdiv (wrap .u64 (wrap .i64 (a2_ + a4_))) (2 ^ (min (toNat 1) Zb)))) + a3_)) - r64_))))
 (.t (decide ((wrap .i64 ((wrap .i64 ((wrap .i64 (Int.fdiv (wrap .u64 (wrap .i64 (a2_ + a4_))) (2 ^ (min (toNat 1) Zb)))) + a3_)) - r64_)) < a4_))
 (.c Yc (rec_ (wrap .i64 (Int.fdiv (wrap .u64 (wrap .i64 (a2_ + a4_))) (2 ^ (min (toNat 1) Zb)))) (wrap .i64 ((wrap .i64 ((wrap .i64 (Int.fdiv (wrap .u64 (wrap .i64 (a2_ + a4_))) (2 ^ (min (toNat 1) Zb)))) + a3_)) - r64_)) a4_ a5_ a1_) fun r77_ =>
 .l r77_)
 (.l a1_))
 (.l a1_))))))
noncomputable def waz : Nat → (Int) → (Int) → (Int) → ((HL [(.pair (.pair yi yi) y1), (.pair (.pair yi yi) y1)] → Option (Int))) → Yc → Option Yc
 | 0 => fun _ _ _ _ _ => none
 | n + 1 => fun a2_ a3_ a4_ a5_ a1_ => (wqx (waz n) a2_ a3_ a4_ a5_ a1_).ev
noncomputable def wawj : RetK := { acts := [], res := [], sh := .nil, obs := [(64, .arr 167 (.pair (.pair yi yi) y1))], pins := [(0, 0, 64)] }
noncomputable def waah (rec_ : (Int) → (Int) → (Int) → ((HL [(.pair (.pair yi yi) y1), (.pair (.pair yi yi) y1)] → Option (Int))) → Yc → Option Yc) : FD where
 A := (yj [.arr 64, .dat yi, .dat yi, .dat yi, .clo [(.pair (.pair yi yi) y1), (.pair (.pair yi yi) y1)] yi])
 ins := [(64, .arr 167 (.pair (.pair yi yi) y1))]
 lend := [.arg 0]
 R := List (Yf × Y1)
 F := fun x => rec_ x.1.2.1 x.1.2.2.1 x.1.2.2.2.1 x.1.2.2.2.2.1 x.2.1
 emb := fun r => ([], [(64, .arr 167 (.pair (.pair yi yi) y1) r)])
noncomputable def wafh (n : Nat) : FD := waah (waz n)
noncomputable def wkg (rec_ : (Int) → (Int) → (Int) → ((HL [(.pair (.pair yi yi) y1), (.pair (.pair yi yi) y1)] → Option (Int))) → Yc → Option Yc) : Env := envOf [(268, wafd), (250, waah rec_)]
noncomputable def wkh (rec_ : (Int) → (Int) → (Int) → ((HL [(.pair (.pair yi yi) y1), (.pair (.pair yi yi) y1)] → Option (Int))) → Yc → Option Yc) : List (Nat × LD) := [(0, wmm rec_), (2, wmn rec_), (4, wmo rec_), (6, wmp rec_), (8, wmq rec_)]
noncomputable def wki : Code := (f250.body).getD .skip
noncomputable def wbx (k : Int × (((HL [(.pair (.pair yi yi) y1), (.pair (.pair yi yi) y1)] → Option (Int))) × Int)) (v : Int × Yaa) : Tr ((Int × Yaa) ⊕ Yaa) :=
 .t (decide (v.2.1 ≤ k.1))
 (.c Yc (woq v.1 v.2.1 k.2.1 v.2.2) fun r7_ =>
 .l (.inl (v.2.1, ((wrap .i64 (v.2.1 + k.2.2)), r7_))))
 (.l (.inr (v.1, v.2.2)))
noncomputable def wdr (k : Int × (((HL [(.pair (.pair yi yi) y1), (.pair (.pair yi yi) y1)] → Option (Int))) × Int)) (v : Int × Yaa) : Option Yaa := iter (fun v => (wbx k v).ev) v
noncomputable def wmr : LD := ⟨{ acts := [], S := { slots := [0, 1, 2, 6, 7, 8], sh := (yj [.arr 64, .dat yi, .clo [(.pair (.pair yi yi) y1), (.pair (.pair yi yi) y1)] yi, .dat yi, .dat yi, .dat yi]), obs := [(64, .arr 167 (.pair (.pair yi yi) y1))] } }, [(0, { acts := [], S := { slots := [0, 1, 2, 6, 7], sh := (yj [.arr 64, .dat yi, .clo [(.pair (.pair yi yi) y1), (.pair (.pair yi yi) y1)] yi, .dat yi, .dat yi]), obs := [(64, .arr 167 (.pair (.pair yi yi) y1))] } })], (yh [] .nil), Int × (((HL [(.pair (.pair yi yi) y1), (.pair (.pair yi yi) y1)] → Option (Int))) × Int), Int × Yaa, Int × Yc, fun k v => (((), (k.1, (k.2.1, (k.2.2, (v.1, (v.2.1, ())))))), (v.2.2, ())), fun t => (t.1.2.1, (t.1.2.2.1, t.1.2.2.2.1)), fun t => (t.1.2.2.2.2.1, (t.1.2.2.2.2.2.1, t.2.1)), wbx, fun k r => .l (.exit 0 (mkSt ({ slots := [0, 1, 2, 6, 7], sh := (yj [.arr 64, .dat yi, .clo [(.pair (.pair yi yi) y1), (.pair (.pair yi yi) y1)] yi, .dat yi, .dat yi]), obs := [(64, .arr 167 (.pair (.pair yi yi) y1))] }) (((), (k.1, (k.2.1, (k.2.2, (r.1, ()))))), (r.2, ()))))⟩
noncomputable def wby (k : Int × (((HL [(.pair (.pair yi yi) y1), (.pair (.pair yi yi) y1)] → Option (Int))) × Int)) (v : Int × Yaa) : Tr ((Int × Yaa) ⊕ Yaa) :=
 .t (decide (v.2.1 ≤ k.1))
 (.c Yc (waz 1000000 v.1 (wrap .i64 (v.1 + k.2.2)) v.2.1 k.2.1 v.2.2) fun r25_ =>
 .l (.inl (v.2.1, ((wrap .i64 (v.2.1 + (wrap .i64 ((2 : Int) * k.2.2)))), r25_))))
 (.l (.inr (v.1, v.2.2)))
noncomputable def wds (k : Int × (((HL [(.pair (.pair yi yi) y1), (.pair (.pair yi yi) y1)] → Option (Int))) × Int)) (v : Int × Yaa) : Option Yaa := iter (fun v => (wby k v).ev) v
noncomputable def wms : LD := ⟨{ acts := [], S := { slots := [0, 1, 2, 6, 7, 8], sh := (yj [.arr 64, .dat yi, .clo [(.pair (.pair yi yi) y1), (.pair (.pair yi yi) y1)] yi, .dat yi, .dat yi, .dat yi]), obs := [(64, .arr 167 (.pair (.pair yi yi) y1))] } }, [(4, { acts := [], S := { slots := [0, 1, 2, 6, 7], sh := (yj [.arr 64, .dat yi, .clo [(.pair (.pair yi yi) y1), (.pair (.pair yi yi) y1)] yi, .dat yi, .dat yi]), obs := [(64, .arr 167 (.pair (.pair yi yi) y1))] } })], (yh [] .nil), Int × (((HL [(.pair (.pair yi yi) y1), (.pair (.pair yi yi) y1)] → Option (Int))) × Int), Int × Yaa, Int × Yc, fun k v => (((), (k.1, (k.2.1, (k.2.2, (v.1, (v.2.1, ())))))), (v.2.2, ())), fun t => (t.1.2.1, (t.1.2.2.1, t.1.2.2.2.1)), fun t => (t.1.2.2.2.2.1, (t.1.2.2.2.2.2.1, t.2.1)), wby, fun k r => .l (.exit 4 (mkSt ({ slots := [0, 1, 2, 6, 7], sh := (yj [.arr 64, .dat yi, .clo [(.pair (.pair yi yi) y1), (.pair (.pair yi yi) y1)] yi, .dat yi, .dat yi]), obs := [(64, .arr 167 (.pair (.pair yi yi) y1))] }) (((), (k.1, (k.2.1, (k.2.2, (r.1, ()))))), (r.2, ()))))⟩
noncomputable def wbz (k : Int × ((HL [(.pair (.pair yi yi) y1), (.pair (.pair yi yi) y1)] → Option (Int)))) (v : Int × Yc) : Tr (Yaa ⊕ Yc) :=
 .t (decide (v.1 < k.1))
 (.c Yaa (wds (k.1, (k.2, v.1)) ((0 : Int), ((wrap .i64 ((2 : Int) * v.1)), v.2))) fun r31_ =>
 .t (decide ((wrap .i64 (r31_.1 + v.1)) < k.1))
 (.c Yc (waz 1000000 r31_.1 (wrap .i64 (r31_.1 + v.1)) k.1 k.2 r31_.2) fun r32_ =>
 .l (.inl ((wrap .i64 (v.1 * (2 : Int))), r32_)))
 (.l (.inl ((wrap .i64 (v.1 * (2 : Int))), r31_.2))))
 (.l (.inr v.2))
noncomputable def wdt (k : Int × ((HL [(.pair (.pair yi yi) y1), (.pair (.pair yi yi) y1)] → Option (Int)))) (v : Int × Yc) : Option Yc := iter (fun v => (wbz k v).ev) v
noncomputable def wmt : LD := ⟨{ acts := [], S := { slots := [0, 1, 2, 6], sh := (yj [.arr 64, .dat yi, .clo [(.pair (.pair yi yi) y1), (.pair (.pair yi yi) y1)] yi, .dat yi]), obs := [(64, .arr 167 (.pair (.pair yi yi) y1))] } }, [(2, { acts := [], S := { slots := [0], sh := Zan, obs := [(64, .arr 167 (.pair (.pair yi yi) y1))] } })], (yh [] .nil), Int × ((HL [(.pair (.pair yi yi) y1), (.pair (.pair yi yi) y1)] → Option (Int))), Int × Yc, List (Yf × Y1), fun k v => (((), (k.1, (k.2, (v.1, ())))), (v.2, ())), fun t => (t.1.2.1, t.1.2.2.1), fun t => (t.1.2.2.2.1, t.2.1), wbz, fun _ r => .l (.exit 2 (mkSt ({ slots := [0], sh := Zan, obs := [(64, .arr 167 (.pair (.pair yi yi) y1))] }) (((), ()), (r, ()))))⟩
noncomputable def wafi (a2_ : Int) (a3_ : (HL [(.pair (.pair yi yi) y1), (.pair (.pair yi yi) y1)] → Option (Int))) (a1_ : List (Yf × Y1)) : Tr Yc :=
 .c Yaa (wdr (a2_, (a3_, (20 : Int))) ((0 : Int), ((20 : Int), a1_))) fun r13_ =>
 .c Yc (woq r13_.1 a2_ a3_ r13_.2) fun r14_ =>
 .c Yc (wdt (a2_, a3_) ((20 : Int), r14_)) fun r34_ =>
 .l r34_
noncomputable def wafj (a2_ : Int) (a3_ : (HL [(.pair (.pair yi yi) y1), (.pair (.pair yi yi) y1)] → Option (Int))) (a1_ : List (Yf × Y1)) : Option Yc := (wafi a2_ a3_ a1_).ev
noncomputable def wawk : RetK := { acts := [], res := [], sh := .nil, obs := [(64, .arr 167 (.pair (.pair yi yi) y1))], pins := [(0, 0, 64)] }
noncomputable def wafk : FD := yd (yj [.arr 64, .dat yi, .clo [(.pair (.pair yi yi) y1), (.pair (.pair yi yi) y1)] yi]) [(64, .arr 167 (.pair (.pair yi yi) y1))] [.arg 0] Yc (fun x => wafj x.1.2.1 x.1.2.2.1 x.2.1) (fun r => ([], [(64, .arr 167 (.pair (.pair yi yi) y1) r)]))
noncomputable def wqy : Env := envOf [(249, waew), (250, wafh 1000000)]
noncomputable def wqz : List (Nat × LD) := [(0, wmr), (4, wms), (2, wmt)]
noncomputable def wra : Code := (f230.body).getD .skip
noncomputable def wafl (a2_ : (HL [(.pair (.pair yi yi) y1), (.pair (.pair yi yi) y1)] → Option (Int))) (a1_ : List (Yf × Y1)) : Tr Yc :=
 .c Yc (wafj ((length a1_ : Nat) : Int) a2_ a1_) fun r1_ =>
 .l r1_
noncomputable def wwt (a2_ : (HL [(.pair (.pair yi yi) y1), (.pair (.pair yi yi) y1)] → Option (Int))) (a1_ : List (Yf × Y1)) : Option Yc := (wafl a2_ a1_).ev
noncomputable def wawl : RetK := { acts := [], res := [], sh := .nil, obs := [(64, .arr 167 (.pair (.pair yi yi) y1))], pins := [(0, 0, 64)] }
noncomputable def wwu : FD := yd (yj [.arr 64, .clo [(.pair (.pair yi yi) y1), (.pair (.pair yi yi) y1)] yi]) [(64, .arr 167 (.pair (.pair yi yi) y1))] [.arg 0] Yc (fun x => wwt x.1.2.1 x.2.1) (fun r => ([], [(64, .arr 167 (.pair (.pair yi yi) y1) r)]))
noncomputable def T_zh (a1_ : Int) (a2_ : Int) (_a3_ : Y1) (a4_ : Int) (a5_ : Int) (_a6_ : Y1) : Tr (Int) :=
 .g (inR 0 2) <|
 .g (inR 0 2) <|
 .c (Int) (wwh a1_ a4_) fun r1_ =>
 .g (inR 1 2) <|
 .g (inR 1 2) <|
 .c (Int) (wwh a2_ a5_) fun r2_ =>
 .c (Int) (F_zb ([r1_, r2_] : Y1)) fun r3_ =>
 .l r3_
noncomputable def F_zh (a1_ : Int) (a2_ : Int) (a3_ : Y1) (a4_ : Int) (a5_ : Int) (a6_ : Y1) : Option (Int) := (T_zh a1_ a2_ a3_ a4_ a5_ a6_).ev
noncomputable def K_zh : RetK := yr [.tmp 4] Zi
noncomputable def D_zh : FD := yd (yj [.agg (yj [.dat yi, .dat yi, .dat y1]), .agg (yj [.dat yi, .dat yi, .dat y1])]) [] [] Int (fun x => F_zh x.1.1.1 x.1.1.2.1 x.1.1.2.2.1 x.1.2.1.1 x.1.2.1.2.1 x.1.2.1.2.2.1) (fun r => ([.dat yi r], []))
noncomputable def wih (k : Int × (Int × (Int × (Y1 × (Y2 × Y2))))) (v : Int × Yc) : Tr (Yaa ⊕ Yc) :=
 .t (decide (v.1 < k.2.2.1))
 (.g (inR v.1 (length k.2.2.2.2.2)) <|
 .g (decide ((toNat v.1) < length k.2.2.2.2.2)) <|
 .c (Int) (F_zq k.2.2.2.1 k.2.2.2.2.1 (getD k.2.2.2.2.2 (toNat v.1) ([] : Y1)) k.1) fun r10_ =>
 .c (Int) (F_zq k.2.2.2.1 k.2.2.2.2.1 (getD k.2.2.2.2.2 (toNat v.1) ([] : Y1)) k.2.1) fun r11_ =>
 .g (decide ((length v.2 + length ([((r10_, r11_), (getD k.2.2.2.2.2 (toNat v.1) ([] : Y1)))] : List (Yf × Y1))) * 40 ≤ 140737488355328)) <|
 .l (.inl ((wrap .i64 (v.1 + 1)), (v.2 ++ ([((r10_, r11_), (getD k.2.2.2.2.2 (toNat v.1) ([] : Y1)))] : List (Yf × Y1))))))
 (.l (.inr v.2))
noncomputable def wrb (k : Int × (Int × (Int × (Y1 × (Y2 × Y2))))) (v : Int × Yc) : Option Yc := iter (fun v => (wih k v).ev) v
noncomputable def wrc : LD := ⟨{ acts := [], S := { slots := [1, 2, 3, 8, 20, 21, 22], sh := (yj [.dat yi, .dat yi, .box 3 0, .arr 16, .arr 1280, .dat yi, .dat yi]), obs := [Zaf, (16, .arr 167 (.pair (.pair yi yi) y1)), (1280, .arr 24 y1)] } }, [(0, { acts := [], S := { slots := [8], sh := (yj [.arr 16]), obs := [(16, .arr 167 (.pair (.pair yi yi) y1))] } })], (yh [] .nil), Int × (Int × (Int × (Y1 × (Y2 × Y2)))), Int × Yc, List (Yf × Y1), fun k v => ((k.1, (k.2.1, ((), ((), ((), (k.2.2.1, (v.1, ()))))))), ((k.2.2.2.1, (k.2.2.2.2.1, ())), (v.2, (k.2.2.2.2.2, ())))), fun t => (t.1.1, (t.1.2.1, (t.1.2.2.2.2.2.1, (t.2.1.1, (t.2.1.2.1, t.2.2.2.1))))), fun t => (t.1.2.2.2.2.2.2.1, t.2.2.1), wih, fun _ r => .l (.exit 0 (mkSt ({ slots := [8], sh := (yj [.arr 16]), obs := [(16, .arr 167 (.pair (.pair yi yi) y1))] }) (((), ()), (r, ()))))⟩
noncomputable def wdu (k : Int × Yc) (v : Int × Yo) : Tr ((Int × Yo) ⊕ Yo) :=
 .t (decide (v.1 < k.1))
 (.g (inR v.1 (length k.2)) <|
 .g (decide ((toNat v.1) < length k.2)) <|
 .t (((length v.2.1 : Nat) : Int) == (0 : Int))
 (.g (decide ((length v.2.1 + length ([(getD k.2 (toNat v.1) (((0 : Int), (0 : Int)), ([] : Y1))).1] : List Yf)) * 16 ≤ 140737488355328)) <|
 .g (decide ((length v.2.2 + length ([(getD k.2 (toNat v.1) (((0 : Int), (0 : Int)), ([] : Y1))).2] : List Y1)) * 24 ≤ 140737488355328)) <|
 .l (.inl ((wrap .i64 (v.1 + 1)), ((v.2.1 ++ ([(getD k.2 (toNat v.1) (((0 : Int), (0 : Int)), ([] : Y1))).1] : List Yf)), (v.2.2 ++ ([(getD k.2 (toNat v.1) (((0 : Int), (0 : Int)), ([] : Y1))).2] : List Y1))))))
 (.g (inR 1 2) <|
 .g (inR (wrap .i64 (((length v.2.1 : Nat) : Int) - 1)) (length v.2.1)) <|
 .g (decide ((toNat (wrap .i64 (((length v.2.1 : Nat) : Int) - 1))) < length v.2.1)) <|
 .t (decide ((getD k.2 (toNat v.1) (((0 : Int), (0 : Int)), ([] : Y1))).1.2 < (getD v.2.1 (toNat (wrap .i64 (((length v.2.1 : Nat) : Int) - 1))) ((0 : Int), (0 : Int))).2))
 (.g (decide ((length v.2.1 + length ([(getD k.2 (toNat v.1) (((0 : Int), (0 : Int)), ([] : Y1))).1] : List Yf)) * 16 ≤ 140737488355328)) <|
 .g (decide ((length v.2.2 + length ([(getD k.2 (toNat v.1) (((0 : Int), (0 : Int)), ([] : Y1))).2] : List Y1)) * 24 ≤ 140737488355328)) <|
 .l (.inl ((wrap .i64 (v.1 + 1)), ((v.2.1 ++ ([(getD k.2 (toNat v.1) (((0 : Int), (0 : Int)), ([] : Y1))).1] : List Yf)), (v.2.2 ++ ([(getD k.2 (toNat v.1) (((0 : Int), (0 : Int)), ([] : Y1))).2] : List Y1))))))
 (.l (.inl ((wrap .i64 (v.1 + 1)), (v.2.1, v.2.2))))))
 (.l (.inr (v.2.1, v.2.2)))
noncomputable def wrd (k : Int × Yc) (v : Int × Yo) : Option Yo := iter (fun v => (wdu k v).ev) v
noncomputable def wre : LD := ⟨{ acts := [], S := { slots := [11, 12, 45, 46, 47], sh := (yj [.arr 43, .arr 44, .arr 16, .dat yi, .dat yi]), obs := [(43, .arr 33 (.pair yi yi)), (44, .arr 24 y1), (16, .arr 167 (.pair (.pair yi yi) y1))] } }, [(2, { acts := [], S := { slots := [11, 12], sh := (yj [.arr 43, .arr 44]), obs := [(43, .arr 33 (.pair yi yi)), (44, .arr 24 y1)] } })], (yh [] .nil), Int × Yc, Int × Yo, (List Yf) × Y2, fun k v => (((), ((), ((), (k.1, (v.1, ()))))), (v.2.1, (v.2.2, (k.2, ())))), fun t => (t.1.2.2.2.1, t.2.2.2.1), fun t => (t.1.2.2.2.2.1, (t.2.1, t.2.2.1)), wdu, fun _ r => .l (.exit 2 (mkSt ({ slots := [11, 12], sh := (yj [.arr 43, .arr 44]), obs := [(43, .arr 33 (.pair yi yi)), (44, .arr 24 y1)] }) (((), ((), ())), (r.1, (r.2, ())))))⟩
noncomputable def T_zg (a1_ : Y1) (a2_ : List Y1) (a3_ : Int) (a4_ : Int) : Tr Yo :=
 .c Y2 (wjy ((length a1_ : Nat) : Int)) fun r1_ =>
 .c Yc (wrb (a3_, (a4_, (((length r1_ : Nat) : Int), (a1_, (a2_, r1_))))) ((0 : Int), ([] : List (Yf × Y1)))) fun r13_ =>
 .c Yc (wwt (fun h14_ => Option.bind (F_zh h14_.1.1.1 h14_.1.1.2 h14_.1.2 h14_.2.1.1.1 h14_.2.1.1.2 h14_.2.1.2) fun y15_ => some y15_) r13_) fun r16_ =>
 .c Yo (wrd (((length r16_ : Nat) : Int), r16_) ((0 : Int), (([] : List Yf), ([] : List Y1)))) fun r24_ =>
 .l (r24_.1, r24_.2)
noncomputable def F_zg (a1_ : Y1) (a2_ : List Y1) (a3_ : Int) (a4_ : Int) : Option Yo := (T_zg a1_ a2_ a3_ a4_).ev
noncomputable def K_zg : RetK := { acts := [.ren 43 0, .ren 44 1], res := [.tmp 6, .tmp 7], sh := (yj [.arr 0, .arr 1]), obs := [(0, .arr 33 (.pair yi yi)), (1, .arr 24 y1)], pins := [] }
noncomputable def D_zg : FD := yd (yj [.agg Zg, .dat yi, .dat yi]) [] [] Yo (fun x => F_zg x.1.1.1 x.1.1.2.1 x.1.2.1 x.1.2.2.1) (fun r => ([.arr 0, .arr 1], [(0, .arr 33 (.pair yi yi) r.1), (1, .arr 24 y1 r.2)]))
def Z_zg : Nat → Nat → List Nat := fun r i => match look [(14, [(0, [60000000, 90000051, 90000059, 90000062, 90000063])])] r with
 | some l => (look l i).getD []
 | none => []
noncomputable def E_zg : Env := envOf [(91, wwn), (93, D_zq), (179, wwu), (179, wwu), (180, D_zh)]
noncomputable def O_zg : List (Nat × LD) := [(0, wrc), (2, wre)]
noncomputable def C_zg : Code := (f86.body).getD .skip
noncomputable def T_zr (a1_ : Y1) (a2_ : List Y1) (a3_ : Int) (a4_ : Int) : Tr (Bool × (List Yf)) :=
 .c (Bool) (wom a1_ a2_ a3_ a4_) fun r1_ =>
 .t (!r1_)
 (.l (false, ([] : List Yf)))
 (.c Yo (F_zg a1_ a2_ a3_ a4_) fun r2_ =>
 .l (true, r2_.1))
noncomputable def F_zr (a1_ : Y1) (a2_ : List Y1) (a3_ : Int) (a4_ : Int) : Option (Bool × (List Yf)) := (T_zr a1_ a2_ a3_ a4_).ev
noncomputable def K_zr : RetK := { acts := [.own 6 0 33 (.pair yi yi), .ren 1216 0], res := [.tmp 6, .tmp 7], sh := (yj [.arr 0, .dat .bool]), obs := [(0, .arr 33 (.pair yi yi))], pins := [] }
noncomputable def D_zr : FD := yd (yj [.agg Zg, .dat yi, .dat yi]) [] [] (Bool × (List Yf)) (fun x => F_zr x.1.1.1 x.1.1.2.1 x.1.2.1 x.1.2.2.1) (fun r => ([.arr 0, .dat .bool r.1], [(0, .arr 33 (.pair yi yi) r.2)]))
noncomputable def wafm (a1_ : Int) (a2_ : Int) (a3_ : Int) : Tr (Bool) :=
 .t (decide (a2_ ≤ a1_))
 (.l (decide (a1_ ≤ a3_)))
 (.l false)
noncomputable def wkj (a1_ : Int) (a2_ : Int) (a3_ : Int) : Option (Bool) := (wafm a1_ a2_ a3_).ev
noncomputable def wawr : RetK := yr [.tmp 6] Zh
noncomputable def wor : FD := yd (yj [.dat yi, .dat yi, .dat yi]) [] [] Bool (fun x => wkj x.1.1 x.1.2.1 x.1.2.2.1) (fun r => ([.dat .bool r], []))
noncomputable def wdv (k : Y1 × Yf) (v : Int) : Tr ((Int) ⊕ ((Unit) ⊕ (Unit))) :=
 .t (decide (v < ((length k.1 : Nat) : Int)))
 (.g (inR v (length k.1)) <|
 .c (Bool) (wkj (getD k.1 (toNat v) 0) (0 : Int) k.2.2) fun r5_ =>
 .t (!r5_)
 (.l (.inr (.inr ())))
 (.l (.inl (wrap .i64 (v + 1)))))
 (.l (.inr (.inl ())))
noncomputable def wrf (k : Y1 × Yf) (v : Int) : Option ((Unit) ⊕ (Unit)) := iter (fun v => (wdv k v).ev) v
noncomputable def wmu : LD := ⟨(yh [0, 1, 2, 7] (yj [.dat y1, .dat yi, .dat yi, .dat yi])), [(0, (yh [0, 1] (yj [.dat y1, .dat yi])))], (yh [6] Zh), Y1 × Yf, Int, (Unit) ⊕ (Unit), fun k v => ((k.1, (k.2.1, (k.2.2, (v, ())))), ()), fun t => (t.1.1, (t.1.2.1, t.1.2.2.1)), fun t => t.1.2.2.2.1, wdv, fun k r => .s (Unit) (Unit) r (fun _ => .l (.exit 0 (mkSt ((ys [0, 1] (yj [.dat y1, .dat yi]))) ((k.1, (k.2.1, ())), ())))) (fun _ => .l (.ret (mkSt ((ys [6] Zh)) ((false, ()), ()))))⟩
noncomputable def wafn (a1_ : Y1) (a2_ : Int) (a3_ : Int) : Tr (Bool) :=
 .c ((Unit) ⊕ (Unit)) (wrf (a1_, (a2_, a3_)) (0 : Int)) fun r9_ =>
 .s (Unit) (Unit) r9_
 (fun _ => .l (((length a1_ : Nat) : Int) == a2_))
 (fun _ => .l false)
noncomputable def wrg (a1_ : Y1) (a2_ : Int) (a3_ : Int) : Option (Bool) := (wafn a1_ a2_ a3_).ev
noncomputable def waws : RetK := yr [.tmp 6] Zh
noncomputable def wafo : FD := yd (yj [.dat y1, .dat yi, .dat yi]) [] [] Bool (fun x => wrg x.1.1 x.1.2.1 x.1.2.2.1) (fun r => ([.dat .bool r], []))
noncomputable def wafp : Env := envOf [(130, wor)]
noncomputable def wafq : List (Nat × LD) := [(0, wmu)]
noncomputable def wafr : Code := (f200.body).getD .skip
noncomputable def wdw (k : Int × Yt) (v : Int) : Tr ((Int) ⊕ ((Unit) ⊕ (Unit))) :=
 .t (decide (v < ((length k.2.2 : Nat) : Int)))
 (.g (inR v (length k.2.2)) <|
 .c (Bool) (wrg (getD k.2.2 (toNat v) ([] : Y1)) k.1 (99 : Int)) fun r5_ =>
 .t (!r5_)
 (.l (.inr (.inr ())))
 (.l (.inl (wrap .i64 (v + 1)))))
 (.l (.inr (.inl ())))
noncomputable def wrh (k : Int × Yt) (v : Int) : Option ((Unit) ⊕ (Unit)) := iter (fun v => (wdw k v).ev) v
noncomputable def wmv : LD := ⟨{ acts := [], S := { slots := [1, 3, 4], sh := (yj [.box 1 0, .dat yi, .dat yi]), obs := [(1, .cells Zg)] } }, [(0, { acts := [], S := { slots := [1, 3], sh := (yj [.box 1 0, .dat yi]), obs := [(1, .cells Zg)] } })], (yh [2] Zh), Int × Yt, Int, (Unit) ⊕ (Unit), fun k v => (((), (k.1, (v, ()))), ((k.2.1, (k.2.2, ())), ())), fun t => (t.1.2.1, (t.2.1.1, t.2.1.2.1)), fun t => t.1.2.2.1, wdw, fun k r => .s (Unit) (Unit) r (fun _ => .l (.exit 0 (mkSt ({ slots := [1, 3], sh := (yj [.box 1 0, .dat yi]), obs := [(1, .cells Zg)] }) (((), (k.1, ())), ((k.2.1, (k.2.2, ())), ()))))) (fun _ => .l (.ret (mkSt ((ys [2] Zh)) ((false, ()), ()))))⟩
noncomputable def wafs (a1_ : Y1) (a2_ : List Y1) : Tr (Bool) :=
 .c ((Unit) ⊕ (Unit)) (wrh (((length a1_ : Nat) : Int), (a1_, a2_)) (0 : Int)) fun r10_ =>
 .s (Unit) (Unit) r10_
 (fun _ => .c (Bool) (wkj ((length a1_ : Nat) : Int) (1 : Int) (7 : Int)) fun r13_ =>
 .t r13_
 (.c (Bool) (wrg a1_ ((length a1_ : Nat) : Int) (99 : Int)) fun r14_ =>
 .t r14_
 (.l (decide (((length a2_ : Nat) : Int) ≤ (7 : Int))))
 (.l false))
 (.l false))
 (fun _ => .l false)
noncomputable def wri (a1_ : Y1) (a2_ : List Y1) : Option (Bool) := (wafs a1_ a2_).ev
noncomputable def wawt : RetK := yr [.tmp 2] Zh
noncomputable def wwv : FD := yd (yj [.agg Zg]) [] [] Bool (fun x => wri x.1.1.1 x.1.1.2.1) (fun r => ([.dat .bool r], []))
noncomputable def waft : Env := envOf [(200, wafo), (130, wor)]
noncomputable def wafu : List (Nat × LD) := [(0, wmv)]
noncomputable def wafv : Code := (f166.body).getD .skip
noncomputable def www (a1_ : Int) : Tr (Bool) :=
 .c (Bool) (wkj a1_ (1 : Int) (5 : Int)) fun r1_ =>
 .l r1_
noncomputable def wos (a1_ : Int) : Option (Bool) := (www a1_).ev
noncomputable def wawu : RetK := yr [.tmp 2] Zh
noncomputable def wwx : FD := yd Zi [] [] Bool (fun x => wos x.1.1) (fun r => ([.dat .bool r], []))
noncomputable def wafw (a1_ : Y1) (a2_ : List Y1) (a3_ : Int) (a4_ : Int) : Tr (Bool) :=
 .c (Bool) (wri a1_ a2_) fun r1_ =>
 .t r1_
 (.c (Bool) (wos a3_) fun r2_ =>
 .t r2_
 (.c (Bool) (wos a4_) fun r3_ =>
 .l r3_)
 (.l false))
 (.l false)
noncomputable def wot (a1_ : Y1) (a2_ : List Y1) (a3_ : Int) (a4_ : Int) : Option (Bool) := (wafw a1_ a2_ a3_ a4_).ev
noncomputable def wawv : RetK := yr [.tmp 6] Zh
noncomputable def wrj : FD := yd (yj [.agg Zg, .dat yi, .dat yi]) [] [] Bool (fun x => wot x.1.1.1 x.1.1.2.1 x.1.2.1 x.1.2.2.1) (fun r => ([.dat .bool r], []))
noncomputable def wbb (k : Int × Int) (v : Int × Y1) : Tr (Yam ⊕ Y1) :=
 .t (decide (v.1 < k.1))
 (.g (decide (0 ≤ v.1)) <|
 .t ((wrap .i64 (BitVec.toNat ((BitVec.ofInt (IntKind.bits .i64) (Int.fdiv k.2 (2 ^ (min (toNat v.1) (IntKind.bits .i64))))) &&& (BitVec.ofInt (IntKind.bits .i64) (1 : Int))))) == (1 : Int))
 (.g (decide ((length v.2 + length ([v.1] : Y1)) * 8 ≤ 140737488355328)) <|
 .l (.inl ((wrap .i64 (v.1 + 1)), (v.2 ++ ([v.1] : Y1)))))
 (.l (.inl ((wrap .i64 (v.1 + 1)), v.2))))
 (.l (.inr v.2))
noncomputable def wga (k : Int × Int) (v : Int × Y1) : Option Y1 := iter (fun v => (wbb k v).ev) v
noncomputable def wmw : LD := ⟨{ acts := [], S := { slots := [0, 1, 5, 6], sh := (yj [.dat yi, .dat yi, .arr 7, .dat yi]), obs := [(7, .arr 3 yi)] } }, [(0, { acts := [], S := { slots := [5], sh := (yj [.arr 7]), obs := [(7, .arr 3 yi)] } })], (yh [] .nil), Int × (Int), Int × Y1, Y1, fun k v => ((k.1, (k.2, ((), (v.1, ())))), (v.2, ())), fun t => (t.1.1, t.1.2.1), fun t => (t.1.2.2.2.1, t.2.1), wbb, fun _ r => .l (.exit 0 (mkSt ({ slots := [5], sh := (yj [.arr 7]), obs := [(7, .arr 3 yi)] }) (((), ()), (r, ()))))⟩
noncomputable def wrk (a1_ : Int) (a2_ : Int) : Tr Y1 :=
 .c Y1 (wga (a1_, a2_) ((0 : Int), ([] : Y1))) fun r6_ =>
 .l r6_
noncomputable def wkk (a1_ : Int) (a2_ : Int) : Option Y1 := (wrk a1_ a2_).ev
noncomputable def waww : RetK := { acts := [.ren 7 0], res := [.tmp 4], sh := (yj [.arr 0]), obs := [(0, .arr 3 yi)], pins := [] }
noncomputable def wwy : FD := yd Zx [] [] Y1 (fun x => wkk x.1.1 x.1.2.1) (fun r => ([.arr 0], [(0, .arr 3 yi r)]))
noncomputable def wafx : Env := envOf []
noncomputable def wafy : List (Nat × LD) := [(0, wmw)]
noncomputable def wafz : Code := (f119.body).getD .skip
noncomputable def wgb (k : Y1 × Y1) (v : Int) : Tr ((Int) ⊕ ((Unit) ⊕ (Bool))) :=
 .t (decide (v < ((length k.1 : Nat) : Int)))
 (.g (inR v (length k.1)) <|
 .g (inR v (length k.2)) <|
 .t ((getD k.1 (toNat v) 0) != (getD k.2 (toNat v) 0))
 (.g (inR v (length k.1)) <|
 .g (inR v (length k.2)) <|
 .l (.inr (.inr (decide ((getD k.1 (toNat v) 0) < (getD k.2 (toNat v) 0))))))
 (.l (.inl (wrap .i64 (v + 1)))))
 (.l (.inr (.inl ())))
noncomputable def wkl (k : Y1 × Y1) (v : Int) : Option ((Unit) ⊕ (Bool)) := iter (fun v => (wgb k v).ev) v
noncomputable def wmx : LD := ⟨(yh [0, 1, 5] (yj [.dat y1, .dat y1, .dat yi])), [(0, (yh [] .nil))], (yh [4] Zh), Y1 × Y1, Int, (Unit) ⊕ (Bool), fun k v => ((k.1, (k.2, (v, ()))), ()), fun t => (t.1.1, t.1.2.1), fun t => t.1.2.2.1, wgb, fun _ r => .s (Unit) (Bool) r (fun _ => .l (.exit 0 (mkSt ((ys [] .nil)) ((), ())))) (fun b => .l (.ret (mkSt ((ys [4] Zh)) ((b, ()), ()))))⟩
noncomputable def wwz (a1_ : Y1) (a2_ : Y1) : Tr (Bool) :=
 .t (((length a1_ : Nat) : Int) != ((length a2_ : Nat) : Int))
 (.l (decide (((length a1_ : Nat) : Int) < ((length a2_ : Nat) : Int))))
 (.c ((Unit) ⊕ (Bool)) (wkl (a1_, a2_) (0 : Int)) fun r5_ =>
 .s (Unit) (Bool) r5_
 (fun _ => .l false)
 (fun r7_ => .l r7_))
noncomputable def wxa (a1_ : Y1) (a2_ : Y1) : Option (Bool) := (wwz a1_ a2_).ev
noncomputable def wawx : RetK := yr [.tmp 4] Zh
noncomputable def waga : FD := yd (yj [.dat y1, .dat y1]) [] [] Bool (fun x => wxa x.1.1 x.1.2.1) (fun r => ([.dat .bool r], []))
noncomputable def wagb : Env := envOf []
noncomputable def wagc : List (Nat × LD) := [(0, wmx)]
noncomputable def wagd : Code := (f189.body).getD .skip
noncomputable def wgc (k : Int × (Y2 × Yam)) (v : Int) : Tr ((Int) ⊕ (Int)) :=
 .t (decide (0 < v))
 (.g (inR (wrap .i64 (v - 1)) (length k.2.1)) <|
 .c (Bool) (wxa k.2.2.2 (getD k.2.1 (toNat (wrap .i64 (v - 1))) ([] : Y1))) fun r26_ =>
 .t r26_
 (.l (.inl (wrap .i64 (v - 1))))
 (.l (.inr v)))
 (.l (.inr v))
noncomputable def wkm (k : Int × (Y2 × Yam)) (v : Int) : Option (Int) := iter (fun v => (wgc k v).ev) v
noncomputable def wmy : LD := ⟨{ acts := [], S := { slots := [0, 3, 4, 5, 6], sh := (yj [.dat yi, .dat y2, .dat yi, .arr 1024, .dat yi]), obs := [(1024, .arr 3 yi)] } }, [(2, { acts := [], S := { slots := [0, 3, 4, 5, 6], sh := (yj [.dat yi, .dat y2, .dat yi, .arr 1024, .dat yi]), obs := [(1024, .arr 3 yi)] } })], (yh [] .nil), Int × (Y2 × Yam), Int, Int, fun k v => ((k.1, (k.2.1, (k.2.2.1, ((), (v, ()))))), (k.2.2.2, ())), fun t => (t.1.1, (t.1.2.1, (t.1.2.2.1, t.2.1))), fun t => t.1.2.2.2.2.1, wgc, fun k r => .l (.exit 2 (mkSt ({ slots := [0, 3, 4, 5, 6], sh := (yj [.dat yi, .dat y2, .dat yi, .arr 1024, .dat yi]), obs := [(1024, .arr 3 yi)] }) ((k.1, (k.2.1, (k.2.2.1, ((), (r, ()))))), (k.2.2.2, ()))))⟩
noncomputable def wgd (k : Int) (v : Y2 × Int) : Tr ((Y2 × Int) ⊕ Y2) :=
 .g (decide (0 ≤ k)) <|
 .t (decide (v.2 < (wrap .i64 ((1 : Int) * 2 ^ (min (toNat k) (IntKind.bits .i64))))))
 (.c Y1 (wkk k v.2) fun r20_ =>
 .c (Int) (wkm (k, (v.1, (v.2, r20_))) ((length v.1 : Nat) : Int)) fun r32_ =>
 .g (decide (0 ≤ r32_) && decide (r32_ ≤ ((length v.1 : Nat) : Int))) <|
 .g (decide ((length ([] : List Y1) + length (List.drop 0 (List.take (toNat r32_) v.1))) * 24 ≤ 140737488355328)) <|
 .g (decide ((length (([] : List Y1) ++ (List.drop 0 (List.take (toNat r32_) v.1))) + length ([r20_] : List Y1)) * 24 ≤ 140737488355328)) <|
 .g (decide (0 ≤ r32_) && decide (r32_ ≤ ((length v.1 : Nat) : Int))) <|
 .g (decide ((length ((([] : List Y1) ++ (List.drop 0 (List.take (toNat r32_) v.1))) ++ ([r20_] : List Y1)) + length (List.drop (toNat r32_) (List.take (length v.1) v.1))) * 24 ≤ 140737488355328)) <|
 .l (.inl ((((([] : List Y1) ++ (List.drop 0 (List.take (toNat r32_) v.1))) ++ ([r20_] : List Y1)) ++ (List.drop (toNat r32_) (List.take (length v.1) v.1))), (wrap .i64 (v.2 + 1)))))
 (.l (.inr v.1))
noncomputable def wkn (k : Int) (v : Y2 × Int) : Option Y2 := iter (fun v => (wgd k v).ev) v
noncomputable def wmz : LD := ⟨{ acts := [.fz 7, .fz 32], S := (ys [0, 3, 4] (yj [.dat yi, .dat y2, .dat yi])) }, [(0, (yh [3] (yj [.dat y2])))], (yh [] .nil), Int, Y2 × (Int), List Y1, fun k v => ((k, (v.1, (v.2, ()))), ()), fun t => t.1.1, fun t => (t.1.2.1, t.1.2.2.1), wgd, fun _ r => .l (.exit 0 (mkSt ((ys [3] (yj [.dat y2]))) ((r, ()), ())))⟩
noncomputable def wxb (a1_ : Int) : Tr Y2 :=
 .c Y2 (wkn a1_ (([] : List Y1), (1 : Int))) fun r34_ =>
 .l r34_
noncomputable def wou (a1_ : Int) : Option Y2 := (wxb a1_).ev
noncomputable def wawy : RetK := yr [.tmp 2] (yj [.dat y2])
noncomputable def wxc : FD := yd Zi [] [] (List Y1) (fun x => wou x.1.1) (fun r => ([.dat y2 r], []))
noncomputable def wxd : Nat → Nat → List Nat := fun r i => match look [(8, [(0, [3, 5])])] r with
 | some l => (look l i).getD []
 | none => []
noncomputable def wxe : Env := envOf [(119, wwy), (189, waga)]
noncomputable def wxf : List (Nat × LD) := [(2, wmy), (0, wmz)]
noncomputable def wxg : Code := (f96.body).getD .skip
noncomputable def wca (k : Int × (Y1 × Yt)) (v : Int × Int) : Tr (Yf ⊕ (Int)) :=
 .t (decide (v.2 < ((length k.2.1 : Nat) : Int)))
 (.g (inR k.1 (length k.2.2.2)) <|
 .g (inR v.2 (length k.2.1)) <|
 .g (inR (getD k.2.1 (toNat v.2) 0) (length (getD k.2.2.2 (toNat k.1) ([] : Y1)))) <|
 .g (inR k.1 (length k.2.2.2)) <|
 .g (inR v.1 (length (getD k.2.2.2 (toNat k.1) ([] : Y1)))) <|
 .t (decide ((getD (getD k.2.2.2 (toNat k.1) ([] : Y1)) (toNat (getD k.2.1 (toNat v.2) 0)) (0 : Int)) < (getD (getD k.2.2.2 (toNat k.1) ([] : Y1)) (toNat v.1) (0 : Int))))
 (.g (inR v.2 (length k.2.1)) <|
 .l (.inl ((getD k.2.1 (toNat v.2) 0), (wrap .i64 (v.2 + 1)))))
 (.l (.inl (v.1, (wrap .i64 (v.2 + 1))))))
 (.l (.inr v.1))
noncomputable def wge (k : Int × (Y1 × Yt)) (v : Int × Int) : Option (Int) := iter (fun v => (wca k v).ev) v
noncomputable def wna : LD := ⟨{ acts := [], S := { slots := [1, 2, 3, 7, 8], sh := (yj [.dat yi, .dat y1, .box 3 0, .dat yi, .dat yi]), obs := [Zaf] } }, [(0, (yh [7] Zi))], (yh [] .nil), Int × (Y1 × Yt), Int × (Int), Int, fun k v => ((k.1, (k.2.1, ((), (v.1, (v.2, ()))))), ((k.2.2.1, (k.2.2.2, ())), ())), fun t => (t.1.1, (t.1.2.1, (t.2.1.1, t.2.1.2.1))), fun t => (t.1.2.2.2.1, t.1.2.2.2.2.1), wca, fun _ r => .l (.exit 0 (mkSt ((ys [7] Zi)) ((r, ()), ())))⟩
noncomputable def wage (a1_ : Y1) (a2_ : List Y1) (a3_ : Int) (a4_ : Y1) : Tr (Int) :=
 .g (inR 0 (length a4_)) <|
 .c (Int) (wge (a3_, (a4_, (a1_, a2_))) ((getD a4_ (toNat 0) 0), (1 : Int))) fun r8_ =>
 .l r8_
noncomputable def wxh (a1_ : Y1) (a2_ : List Y1) (a3_ : Int) (a4_ : Y1) : Option (Int) := (wage a1_ a2_ a3_ a4_).ev
noncomputable def wawz : RetK := yr [.tmp 6] Zi
noncomputable def wagf : FD := yd (yj [.agg Zg, .dat yi, .dat y1]) [] [] Int (fun x => wxh x.1.1.1 x.1.1.2.1 x.1.2.1 x.1.2.2.1) (fun r => ([.dat yi r], []))
noncomputable def wagg : Env := envOf []
noncomputable def wagh : List (Nat × LD) := [(0, wna)]
noncomputable def wagi : Code := (f262.body).getD .skip
noncomputable def wagj (a1_ : Y1) (a2_ : List Y1) (a3_ : Int) (a4_ : Y1) : Tr (Int) :=
 .g (inR a3_ (length a2_)) <|
 .c (Int) (wxh a1_ a2_ a3_ a4_) fun r1_ =>
 .g (inR r1_ (length (getD a2_ (toNat a3_) ([] : Y1)))) <|
 .l (getD (getD a2_ (toNat a3_) ([] : Y1)) (toNat r1_) (0 : Int))
noncomputable def wrl (a1_ : Y1) (a2_ : List Y1) (a3_ : Int) (a4_ : Y1) : Option (Int) := (wagj a1_ a2_ a3_ a4_).ev
noncomputable def waxa : RetK := yr [.tmp 6] Zi
noncomputable def wxi : FD := yd (yj [.agg Zg, .dat yi, .dat y1]) [] [] Int (fun x => wrl x.1.1.1 x.1.1.2.1 x.1.2.1 x.1.2.2.1) (fun r => ([.dat yi r], []))
noncomputable def wdx (k : Y1 × Yt) (v : Int × Int) : Tr (Yf ⊕ (Int)) :=
 .t (decide (v.2 < ((length k.2.2 : Nat) : Int)))
 (.c (Int) (wrl k.2.1 k.2.2 v.2 k.1) fun r6_ =>
 .l (.inl ((wrap .i64 (v.1 + r6_)), (wrap .i64 (v.2 + 1)))))
 (.l (.inr v.1))
noncomputable def wrm (k : Y1 × Yt) (v : Int × Int) : Option (Int) := iter (fun v => (wdx k v).ev) v
noncomputable def wnb : LD := ⟨{ acts := [], S := { slots := [1, 2, 5, 6], sh := (yj [.dat y1, .box 2 0, .dat yi, .dat yi]), obs := [(2, .cells Zg)] } }, [(0, (yh [5] Zi))], (yh [] .nil), Y1 × Yt, Int × (Int), Int, fun k v => ((k.1, ((), (v.1, (v.2, ())))), ((k.2.1, (k.2.2, ())), ())), fun t => (t.1.1, (t.2.1.1, t.2.1.2.1)), fun t => (t.1.2.2.1, t.1.2.2.2.1), wdx, fun _ r => .l (.exit 0 (mkSt ((ys [5] Zi)) ((r, ()), ())))⟩
noncomputable def wagk (a1_ : Y1) (a2_ : List Y1) (a3_ : Y1) : Tr (Int) :=
 .c (Int) (wrm (a3_, (a1_, a2_)) ((0 : Int), (0 : Int))) fun r8_ =>
 .l r8_
noncomputable def wrn (a1_ : Y1) (a2_ : List Y1) (a3_ : Y1) : Option (Int) := (wagk a1_ a2_ a3_).ev
noncomputable def waxb : RetK := yr [.tmp 4] Zi
noncomputable def wxj : FD := yd (yj [.agg Zg, .dat y1]) [] [] Int (fun x => wrn x.1.1.1 x.1.1.2.1 x.1.2.1) (fun r => ([.dat yi r], []))
noncomputable def wagl : Env := envOf [(239, wxi)]
noncomputable def wagm : List (Nat × LD) := [(0, wnb)]
noncomputable def wagn : Code := (f190.body).getD .skip
noncomputable def wdy (k : Y1 × Yt) (v : Int × Int) : Tr (Yf ⊕ (Int)) :=
 .t (decide (v.2 < ((length k.1 : Nat) : Int)))
 (.g (inR v.2 (length k.1)) <|
 .g (inR (getD k.1 (toNat v.2) 0) (length k.2.1)) <|
 .l (.inl ((wrap .i64 (v.1 + (getD k.2.1 (toNat (getD k.1 (toNat v.2) 0)) (0 : Int)))), (wrap .i64 (v.2 + 1)))))
 (.l (.inr v.1))
noncomputable def wro (k : Y1 × Yt) (v : Int × Int) : Option (Int) := iter (fun v => (wdy k v).ev) v
noncomputable def wnc : LD := ⟨{ acts := [], S := { slots := [1, 2, 5, 6], sh := (yj [.dat y1, .box 2 0, .dat yi, .dat yi]), obs := [(2, .cells Zg)] } }, [(0, (yh [5] Zi))], (yh [] .nil), Y1 × Yt, Int × (Int), Int, fun k v => ((k.1, ((), (v.1, (v.2, ())))), ((k.2.1, (k.2.2, ())), ())), fun t => (t.1.1, (t.2.1.1, t.2.1.2.1)), fun t => (t.1.2.2.1, t.1.2.2.2.1), wdy, fun _ r => .l (.exit 0 (mkSt ((ys [5] Zi)) ((r, ()), ())))⟩
noncomputable def wago (a1_ : Y1) (a2_ : List Y1) (a3_ : Y1) : Tr (Int) :=
 .c (Int) (wro (a3_, (a1_, a2_)) ((0 : Int), (0 : Int))) fun r7_ =>
 .l r7_
noncomputable def wrp (a1_ : Y1) (a2_ : List Y1) (a3_ : Y1) : Option (Int) := (wago a1_ a2_ a3_).ev
noncomputable def waxc : RetK := yr [.tmp 4] Zi
noncomputable def wxk : FD := yd (yj [.agg Zg, .dat y1]) [] [] Int (fun x => wrp x.1.1.1 x.1.1.2.1 x.1.2.1) (fun r => ([.dat yi r], []))
noncomputable def wagp : Env := envOf []
noncomputable def wagq : List (Nat × LD) := [(0, wnc)]
noncomputable def wagr : Code := (f191.body).getD .skip
noncomputable def wags (a1_ : Y1) (a2_ : List Y1) (a3_ : Y1) : Tr (Int) :=
 .c (Int) (wrn a1_ a2_ a3_) fun r1_ =>
 .c (Int) (wrp a1_ a2_ a3_) fun r2_ =>
 .l (wrap .i64 (r1_ + r2_))
noncomputable def wxl (a1_ : Y1) (a2_ : List Y1) (a3_ : Y1) : Option (Int) := (wags a1_ a2_ a3_).ev
noncomputable def waxd : RetK := yr [.tmp 4] Zi
noncomputable def wagt : FD := yd (yj [.agg Zg, .dat y1]) [] [] Int (fun x => wxl x.1.1.1 x.1.1.2.1 x.1.2.1) (fun r => ([.dat yi r], []))
noncomputable def wdz (k : Y1 × Yt) (v : Int × Int) : Tr (Yf ⊕ (Int)) :=
 .t (decide (v.2 < ((length k.2.2 : Nat) : Int)))
 (.c (Int) (wrl k.2.1 k.2.2 v.2 k.1) fun r6_ =>
 .c (Int) (wpq v.1 r6_) fun r7_ =>
 .l (.inl (r7_, (wrap .i64 (v.2 + 1)))))
 (.l (.inr v.1))
noncomputable def wrq (k : Y1 × Yt) (v : Int × Int) : Option (Int) := iter (fun v => (wdz k v).ev) v
noncomputable def wnd : LD := ⟨{ acts := [], S := { slots := [1, 2, 5, 6], sh := (yj [.dat y1, .box 2 0, .dat yi, .dat yi]), obs := [(2, .cells Zg)] } }, [(0, (yh [5] Zi))], (yh [] .nil), Y1 × Yt, Int × (Int), Int, fun k v => ((k.1, ((), (v.1, (v.2, ())))), ((k.2.1, (k.2.2, ())), ())), fun t => (t.1.1, (t.2.1.1, t.2.1.2.1)), fun t => (t.1.2.2.1, t.1.2.2.2.1), wdz, fun _ r => .l (.exit 0 (mkSt ((ys [5] Zi)) ((r, ()), ())))⟩
noncomputable def wagu (a1_ : Y1) (a2_ : List Y1) (a3_ : Y1) : Tr (Int) :=
 .c (Int) (wrq (a3_, (a1_, a2_)) ((0 : Int), (0 : Int))) fun r9_ =>
 .l r9_
noncomputable def wxm (a1_ : Y1) (a2_ : List Y1) (a3_ : Y1) : Option (Int) := (wagu a1_ a2_ a3_).ev
noncomputable def waxe : RetK := yr [.tmp 4] Zi
noncomputable def wagv : FD := yd (yj [.agg Zg, .dat y1]) [] [] Int (fun x => wxm x.1.1.1 x.1.1.2.1 x.1.2.1) (fun r => ([.dat yi r], []))
noncomputable def wagw : Env := envOf [(239, wxi), (197, wuq)]
noncomputable def wagx : List (Nat × LD) := [(0, wnd)]
noncomputable def wagy : Code := (f193.body).getD .skip
noncomputable def wagz (a1_ : Y1) (a2_ : List Y1) (a3_ : Y1) (a4_ : Int) : Tr (Int) :=
 .t (a4_ == 1)
 (.c (Int) (wrn a1_ a2_ a3_) fun r1_ =>
 .l r1_)
 (.t (a4_ == 2)
 (.c (Int) (wrp a1_ a2_ a3_) fun r2_ =>
 .l r2_)
 (.t (a4_ == 3)
 (.c (Int) (wxl a1_ a2_ a3_) fun r3_ =>
 .l r3_)
 (.t (a4_ == 4)
 (.c (Int) (wxm a1_ a2_ a3_) fun r4_ =>
 .l r4_)
 (.l ((length a3_ : Nat) : Int)))))
noncomputable def wgf (a1_ : Y1) (a2_ : List Y1) (a3_ : Y1) (a4_ : Int) : Option (Int) := (wagz a1_ a2_ a3_ a4_).ev
noncomputable def waxf : RetK := yr [.tmp 6] Zi
noncomputable def wrr : FD := yd (yj [.agg Zg, .dat y1, .dat yi]) [] [] Int (fun x => wgf x.1.1.1 x.1.1.2.1 x.1.2.1 x.1.2.2.1) (fun r => ([.dat yi r], []))
noncomputable def waha (a1_ : Int) (a2_ : Int) (a3_ : Int) (a4_ : Int) : Tr (Bool) :=
 .g (inR 0 2) <|
 .g (inR 0 2) <|
 .t (decide (a1_ ≤ a3_))
 (.g (inR 1 2) <|
 .g (inR 1 2) <|
 .t (decide (a2_ ≤ a4_))
 (.l (!((a1_ == a3_) && ((a2_ == a4_) && true))))
 (.l false))
 (.l false)
noncomputable def wov (a1_ : Int) (a2_ : Int) (a3_ : Int) (a4_ : Int) : Option (Bool) := (waha a1_ a2_ a3_ a4_).ev
noncomputable def waxg : RetK := yr [.tmp 4] Zh
noncomputable def wahb : FD := yd (yj [.agg Zx, .agg Zx]) [] [] Bool (fun x => wov x.1.1.1 x.1.1.2.1 x.1.2.1.1 x.1.2.1.2.1) (fun r => ([.dat .bool r], []))
noncomputable def wbc (k : (List Yf) × (Y2 × (Y1 × (Bool × (Int × (Int × Yo)))))) (v : Int) : Tr ((Int) ⊕ ((Unit) ⊕ (Unit))) :=
 .t (decide (v < ((length k.1 : Nat) : Int)))
 (.g (inR v (length k.1)) <|
 .t (((getD k.1 (toNat v) ((0 : Int), (0 : Int))).1 == k.2.2.2.2.1) && (((getD k.1 (toNat v) ((0 : Int), (0 : Int))).2 == k.2.2.2.2.2.1) && true))
 (.l (.inr (.inr ())))
 (.g (inR v (length k.1)) <|
 .c (Bool) (wov ((getD k.1 (toNat v) ((0 : Int), (0 : Int))).1) ((getD k.1 (toNat v) ((0 : Int), (0 : Int))).2) k.2.2.2.2.1 k.2.2.2.2.2.1) fun r10_ =>
 .t r10_
 (.l (.inr (.inr ())))
 (.l (.inl (wrap .i64 (v + 1))))))
 (.l (.inr (.inl ())))
noncomputable def wrs (k : (List Yf) × (Y2 × (Y1 × (Bool × (Int × (Int × Yo)))))) (v : Int) : Option ((Unit) ⊕ (Unit)) := iter (fun v => (wbc k v).ev) v
noncomputable def wne : LD := ⟨{ acts := [], S := { slots := [0, 1, 3, 6, 10, 11, 12, 13], sh := (yj [.dat (.slice (.pair yi yi)), .dat y2, .dat y1, .box 6 0, .arr 15, .arr 16, .dat .bool, .dat yi]), obs := [(6, .cells Zx), (15, .arr 33 (.pair yi yi)), (16, .arr 24 y1)] } }, [(0, { acts := [], S := { slots := [0, 1, 3, 6, 10, 11, 12], sh := (yj [.dat (.slice (.pair yi yi)), .dat y2, .dat y1, .box 6 0, .arr 15, .arr 16, .dat .bool]), obs := [(6, .cells Zx), (15, .arr 33 (.pair yi yi)), (16, .arr 24 y1)] } })], (yh [8, 9] (yj [.dat (.slice (.pair yi yi)), .dat y2])), (List Yf) × (Y2 × (Y1 × (Bool × (Int × (Int × Yo))))), Int, (Unit) ⊕ (Unit), fun k v => ((k.1, (k.2.1, (k.2.2.1, ((), ((), ((), (k.2.2.2.1, (v, ())))))))), ((k.2.2.2.2.1, (k.2.2.2.2.2.1, ())), (k.2.2.2.2.2.2.1, (k.2.2.2.2.2.2.2, ())))), fun t => (t.1.1, (t.1.2.1, (t.1.2.2.1, (t.1.2.2.2.2.2.2.1, (t.2.1.1, (t.2.1.2.1, (t.2.2.1, t.2.2.2.1))))))), fun t => t.1.2.2.2.2.2.2.2.1, wbc, fun k r => .s (Unit) (Unit) r (fun _ => .l (.exit 0 (mkSt ({ slots := [0, 1, 3, 6, 10, 11, 12], sh := (yj [.dat (.slice (.pair yi yi)), .dat y2, .dat y1, .box 6 0, .arr 15, .arr 16, .dat .bool]), obs := [(6, .cells Zx), (15, .arr 33 (.pair yi yi)), (16, .arr 24 y1)] }) ((k.1, (k.2.1, (k.2.2.1, ((), ((), ((), (k.2.2.2.1, ()))))))), ((k.2.2.2.2.1, (k.2.2.2.2.2.1, ())), (k.2.2.2.2.2.2.1, (k.2.2.2.2.2.2.2, ()))))))) (fun _ => .l (.ret (mkSt ((ys [8, 9] (yj [.dat (.slice (.pair yi yi)), .dat y2]))) ((k.1, (k.2.1, ())), ()))))⟩
noncomputable def wao (k : (List Yf) × (Y2 × (Y1 × Yf))) (v : Bool × (Int × Yo)) : Tr ((Bool × (Int × Yo)) ⊕ (Bool × Yo)) :=
 .t (decide (v.2.1 < ((length k.1 : Nat) : Int)))
 (.g (inR v.2.1 (length k.1)) <|
 .c (Bool) (wov k.2.2.2.1 k.2.2.2.2 ((getD k.1 (toNat v.2.1) ((0 : Int), (0 : Int))).1) ((getD k.1 (toNat v.2.1) ((0 : Int), (0 : Int))).2)) fun r33_ =>
 .t r33_
 (.l (.inl (v.1, ((wrap .i64 (v.2.1 + 1)), (v.2.2.1, v.2.2.2)))))
 (.t (!v.1)
 (.g (inR v.2.1 (length k.1)) <|
 .g (inR 0 2) <|
 .g (inR 0 2) <|
 .t (decide (k.2.2.2.1 < (getD k.1 (toNat v.2.1) ((0 : Int), (0 : Int))).1))
 (.g (decide ((length v.2.2.1 + length ([(k.2.2.2.1, k.2.2.2.2)] : List Yf)) * 16 ≤ 140737488355328)) <|
 .g (decide ((length v.2.2.2 + length ([k.2.2.1] : List Y1)) * 24 ≤ 140737488355328)) <|
 .g (inR v.2.1 (length k.1)) <|
 .g (decide ((length (v.2.2.1 ++ ([(k.2.2.2.1, k.2.2.2.2)] : List Yf)) + length ([(getD k.1 (toNat v.2.1) ((0 : Int), (0 : Int)))] : List Yf)) * 16 ≤ 140737488355328)) <|
 .g (inR v.2.1 (length k.2.1)) <|
 .g (decide ((length (v.2.2.2 ++ ([k.2.2.1] : List Y1)) + length ([(getD k.2.1 (toNat v.2.1) ([] : Y1))] : List Y1)) * 24 ≤ 140737488355328)) <|
 .l (.inl (true, ((wrap .i64 (v.2.1 + 1)), (((v.2.2.1 ++ ([(k.2.2.2.1, k.2.2.2.2)] : List Yf)) ++ ([(getD k.1 (toNat v.2.1) ((0 : Int), (0 : Int)))] : List Yf)), ((v.2.2.2 ++ ([k.2.2.1] : List Y1)) ++ ([(getD k.2.1 (toNat v.2.1) ([] : Y1))] : List Y1)))))))
 (.g (inR v.2.1 (length k.1)) <|
 .g (decide ((length v.2.2.1 + length ([(getD k.1 (toNat v.2.1) ((0 : Int), (0 : Int)))] : List Yf)) * 16 ≤ 140737488355328)) <|
 .g (inR v.2.1 (length k.2.1)) <|
 .g (decide ((length v.2.2.2 + length ([(getD k.2.1 (toNat v.2.1) ([] : Y1))] : List Y1)) * 24 ≤ 140737488355328)) <|
 .l (.inl (v.1, ((wrap .i64 (v.2.1 + 1)), ((v.2.2.1 ++ ([(getD k.1 (toNat v.2.1) ((0 : Int), (0 : Int)))] : List Yf)), (v.2.2.2 ++ ([(getD k.2.1 (toNat v.2.1) ([] : Y1))] : List Y1))))))))
 (.g (inR v.2.1 (length k.1)) <|
 .g (decide ((length v.2.2.1 + length ([(getD k.1 (toNat v.2.1) ((0 : Int), (0 : Int)))] : List Yf)) * 16 ≤ 140737488355328)) <|
 .g (inR v.2.1 (length k.2.1)) <|
 .g (decide ((length v.2.2.2 + length ([(getD k.2.1 (toNat v.2.1) ([] : Y1))] : List Y1)) * 24 ≤ 140737488355328)) <|
 .l (.inl (v.1, ((wrap .i64 (v.2.1 + 1)), ((v.2.2.1 ++ ([(getD k.1 (toNat v.2.1) ((0 : Int), (0 : Int)))] : List Yf)), (v.2.2.2 ++ ([(getD k.2.1 (toNat v.2.1) ([] : Y1))] : List Y1)))))))))
 (.l (.inr (v.1, (v.2.2.1, v.2.2.2))))
noncomputable def wea (k : (List Yf) × (Y2 × (Y1 × Yf))) (v : Bool × (Int × Yo)) : Option (Bool × Yo) := iter (fun v => (wao k v).ev) v
noncomputable def wnf : LD := ⟨{ acts := [], S := { slots := [0, 1, 3, 6, 10, 11, 12, 14], sh := (yj [.dat (.slice (.pair yi yi)), .dat y2, .dat y1, .box 6 0, .arr 15, .arr 16, .dat .bool, .dat yi]), obs := [(6, .cells Zx), (15, .arr 33 (.pair yi yi)), (16, .arr 24 y1)] } }, [(2, { acts := [], S := { slots := [3, 6, 10, 11, 12], sh := (yj [.dat y1, .box 6 0, .arr 15, .arr 16, .dat .bool]), obs := [(6, .cells Zx), (15, .arr 33 (.pair yi yi)), (16, .arr 24 y1)] } })], (yh [] .nil), (List Yf) × (Y2 × (Y1 × Yf)), Bool × (Int × Yo), Bool × Yo, fun k v => ((k.1, (k.2.1, (k.2.2.1, ((), ((), ((), (v.1, (v.2.1, ())))))))), ((k.2.2.2.1, (k.2.2.2.2, ())), (v.2.2.1, (v.2.2.2, ())))), fun t => (t.1.1, (t.1.2.1, (t.1.2.2.1, (t.2.1.1, t.2.1.2.1)))), fun t => (t.1.2.2.2.2.2.2.1, (t.1.2.2.2.2.2.2.2.1, (t.2.2.1, t.2.2.2.1))), wao, fun k r => .l (.exit 2 (mkSt ({ slots := [3, 6, 10, 11, 12], sh := (yj [.dat y1, .box 6 0, .arr 15, .arr 16, .dat .bool]), obs := [(6, .cells Zx), (15, .arr 33 (.pair yi yi)), (16, .arr 24 y1)] }) ((k.2.2.1, ((), ((), ((), (r.1, ()))))), ((k.2.2.2.1, (k.2.2.2.2, ())), (r.2.1, (r.2.2, ()))))))⟩
noncomputable def wahc (a1_ : List Yf) (a2_ : List Y1) (a3_ : Int) (a4_ : Int) (a5_ : Y1) : Tr Yo :=
 .c ((Unit) ⊕ (Unit)) (wrs (a1_, (a2_, (a5_, (false, (a3_, (a4_, (([] : List Yf), ([] : List Y1)))))))) (0 : Int)) fun r21_ =>
 .s (Unit) (Unit) r21_
 (fun _ => .c (Bool × Yo) (wea (a1_, (a2_, (a5_, (a3_, a4_)))) (false, ((0 : Int), (([] : List Yf), ([] : List Y1))))) fun r40_ =>
 .t (!r40_.1)
 (.g (decide ((length r40_.2.1 + length ([(a3_, a4_)] : List Yf)) * 16 ≤ 140737488355328)) <|
 .g (decide ((length r40_.2.2 + length ([a5_] : List Y1)) * 24 ≤ 140737488355328)) <|
 .l ((r40_.2.1 ++ ([(a3_, a4_)] : List Yf)), (r40_.2.2 ++ ([a5_] : List Y1))))
 (.l (r40_.2.1, r40_.2.2)))
 (fun _ => .l (a1_, a2_))
noncomputable def wxn (a1_ : List Yf) (a2_ : List Y1) (a3_ : Int) (a4_ : Int) (a5_ : Y1) : Option Yo := (wahc a1_ a2_ a3_ a4_ a5_).ev
noncomputable def waxh : RetK := { acts := [.fz 15, .fz 16], res := [.tmp 8, .tmp 9], sh := (yj [.dat (.slice (.pair yi yi)), .dat y2]), obs := [], pins := [] }
noncomputable def wahd : FD := yd (yj [.dat (.slice (.pair yi yi)), .dat y2, .agg Zx, .dat y1]) [] [] Yo (fun x => wxn x.1.1 x.1.2.1 x.1.2.2.1.1 x.1.2.2.1.2.1 x.1.2.2.2.1) (fun r => ([.dat (.slice (.pair yi yi)) r.1, .dat y2 r.2], []))
noncomputable def wxo : Env := envOf [(232, wahb)]
noncomputable def wxp : List (Nat × LD) := [(0, wne), (2, wnf)]
noncomputable def wxq : Code := (f183.body).getD .skip
noncomputable def web (k : Int × (Int × (Y2 × Yt))) (v : (List Yf) × (Y2 × Int)) : Tr (((List Yf) × (Y2 × Int)) ⊕ Yo) :=
 .t (decide (v.2.2 < ((length k.2.2.1 : Nat) : Int)))
 (.g (inR v.2.2 (length k.2.2.1)) <|
 .c (Int) (wgf k.2.2.2.1 k.2.2.2.2 (getD k.2.2.1 (toNat v.2.2) ([] : Y1)) k.1) fun r32_ =>
 .g (inR v.2.2 (length k.2.2.1)) <|
 .c (Int) (wgf k.2.2.2.1 k.2.2.2.2 (getD k.2.2.1 (toNat v.2.2) ([] : Y1)) k.2.1) fun r33_ =>
 .g (inR v.2.2 (length k.2.2.1)) <|
 .c Yo (wxn v.1 v.2.1 r32_ r33_ (getD k.2.2.1 (toNat v.2.2) ([] : Y1))) fun r34_ =>
 .l (.inl (r34_.1, (r34_.2, (wrap .i64 (v.2.2 + 1))))))
 (.l (.inr (v.1, v.2.1)))
noncomputable def wrt (k : Int × (Int × (Y2 × Yt))) (v : (List Yf) × (Y2 × Int)) : Option Yo := iter (fun v => (web k v).ev) v
noncomputable def wng : LD := ⟨{ acts := [.fz 12, .fz 13], S := { slots := [1, 2, 3, 8, 9, 10, 11], sh := (yj [.dat yi, .dat yi, .box 3 0, .dat (.slice (.pair yi yi)), .dat y2, .dat y2, .dat yi]), obs := [Zaf] } }, [(0, (yh [8, 9] (yj [.dat (.slice (.pair yi yi)), .dat y2])))], (yh [] .nil), Int × (Int × (Y2 × Yt)), (List Yf) × (Y2 × Int), (List Yf) × Y2, fun k v => ((k.1, (k.2.1, ((), (v.1, (v.2.1, (k.2.2.1, (v.2.2, ()))))))), ((k.2.2.2.1, (k.2.2.2.2, ())), ())), fun t => (t.1.1, (t.1.2.1, (t.1.2.2.2.2.2.1, (t.2.1.1, t.2.1.2.1)))), fun t => (t.1.2.2.2.1, (t.1.2.2.2.2.1, t.1.2.2.2.2.2.2.1)), web, fun _ r => .l (.exit 0 (mkSt ((ys [8, 9] (yj [.dat (.slice (.pair yi yi)), .dat y2]))) ((r.1, (r.2, ())), ())))⟩
noncomputable def wahe (a1_ : Y1) (a2_ : List Y1) (a3_ : Int) (a4_ : Int) : Tr Yo :=
 .c Y2 (wou ((length a1_ : Nat) : Int)) fun r1_ =>
 .c Yo (wrt (a3_, (a4_, (r1_, (a1_, a2_)))) (([] : List Yf), (([] : List Y1), (0 : Int)))) fun r37_ =>
 .l (r37_.1, r37_.2)
noncomputable def wru (a1_ : Y1) (a2_ : List Y1) (a3_ : Int) (a4_ : Int) : Option Yo := (wahe a1_ a2_ a3_ a4_).ev
noncomputable def waxi : RetK := yr [.tmp 6, .tmp 7] (yj [.dat (.slice (.pair yi yi)), .dat y2])
noncomputable def wxr : FD := yd (yj [.agg Zg, .dat yi, .dat yi]) [] [] Yo (fun x => wru x.1.1.1 x.1.1.2.1 x.1.2.1 x.1.2.2.1) (fun r => ([.dat (.slice (.pair yi yi)) r.1, .dat y2 r.2], []))
noncomputable def wahf : Nat → Nat → List Nat := fun r i => match look [(1, [(1, [1000000])]), (5, [(0, [8, 9])])] r with
 | some l => (look l i).getD []
 | none => []
noncomputable def wahg : Env := envOf [(96, wxc), (97, wrr), (183, wahd)]
noncomputable def wahh : List (Nat × LD) := [(0, wng)]
noncomputable def wahi : Code := (f88.body).getD .skip
noncomputable def wahj (a1_ : Y1) (a2_ : List Y1) (a3_ : Int) (a4_ : Int) : Tr ((List Yf) × (Bool)) :=
 .c (Bool) (wot a1_ a2_ a3_ a4_) fun r1_ =>
 .t (!r1_)
 (.l (([] : List Yf), false))
 (.c Yo (wru a1_ a2_ a3_ a4_) fun r2_ =>
 .l (r2_.1, true))
noncomputable def wxs (a1_ : Y1) (a2_ : List Y1) (a3_ : Int) (a4_ : Int) : Option ((List Yf) × (Bool)) := (wahj a1_ a2_ a3_ a4_).ev
noncomputable def waxj : RetK := { acts := [.fz 15], res := [.tmp 6, .tmp 7], sh := (yj [.dat (.slice (.pair yi yi)), .dat .bool]), obs := [], pins := [] }
noncomputable def wahk : FD := yd (yj [.agg Zg, .dat yi, .dat yi]) [] [] ((List Yf) × (Bool)) (fun x => wxs x.1.1.1 x.1.1.2.1 x.1.2.1 x.1.2.2.1) (fun r => ([.dat (.slice (.pair yi yi)) r.1, .dat .bool r.2], []))
noncomputable def T_zs (a1_ : Y1) (a2_ : List Y1) (a3_ : Int) (a4_ : Int) : Tr (Bool × Y2) :=
 .c (Bool) (wom a1_ a2_ a3_ a4_) fun r1_ =>
 .t (!r1_)
 (.l (false, ([] : List Y1)))
 (.c Yo (F_zg a1_ a2_ a3_ a4_) fun r2_ =>
 .l (true, r2_.2))
noncomputable def F_zs (a1_ : Y1) (a2_ : List Y1) (a3_ : Int) (a4_ : Int) : Option (Bool × Y2) := (T_zs a1_ a2_ a3_ a4_).ev
noncomputable def K_zs : RetK := { acts := [.own 6 0 24 y1, .ren 1217 0], res := [.tmp 6, .tmp 7], sh := (yj [.arr 0, .dat .bool]), obs := [(0, .arr 24 y1)], pins := [] }
noncomputable def D_zs : FD := yd (yj [.agg Zg, .dat yi, .dat yi]) [] [] (Bool × Y2) (fun x => F_zs x.1.1.1 x.1.1.2.1 x.1.2.1 x.1.2.2.1) (fun r => ([.arr 0, .dat .bool r.1], [(0, .arr 24 y1 r.2)]))
noncomputable def wahl (a1_ : Y1) (a2_ : List Y1) (a3_ : Int) (a4_ : Int) : Tr (Y2 × (Bool)) :=
 .c (Bool) (wot a1_ a2_ a3_ a4_) fun r1_ =>
 .t (!r1_)
 (.l (([] : List Y1), false))
 (.c Yo (wru a1_ a2_ a3_ a4_) fun r2_ =>
 .l (r2_.2, true))
noncomputable def wxt (a1_ : Y1) (a2_ : List Y1) (a3_ : Int) (a4_ : Int) : Option (Y2 × (Bool)) := (wahl a1_ a2_ a3_ a4_).ev
noncomputable def waxm : RetK := { acts := [.fz 15], res := [.tmp 6, .tmp 7], sh := (yj [.dat y2, .dat .bool]), obs := [], pins := [] }
noncomputable def wahm : FD := yd (yj [.agg Zg, .dat yi, .dat yi]) [] [] (Y2 × (Bool)) (fun x => wxt x.1.1.1 x.1.1.2.1 x.1.2.1 x.1.2.2.1) (fun r => ([.dat y2 r.1, .dat .bool r.2], []))
noncomputable def waxn : Nat → Nat → List Nat := fun r i => match look [(2, [(0, [1000000])])] r with
 | some l => (look l i).getD []
 | none => []
noncomputable def wec (k : Y1 × Y1) (v : Int) : Tr ((Int) ⊕ ((Unit) ⊕ (Unit))) :=
 .t (decide (v < ((length k.1 : Nat) : Int)))
 (.g (inR v (length k.1)) <|
 .g (inR v (length k.2)) <|
 .t ((getD k.1 (toNat v) 0) != (getD k.2 (toNat v) 0))
 (.l (.inr (.inr ())))
 (.l (.inl (wrap .i64 (v + 1)))))
 (.l (.inr (.inl ())))
noncomputable def wrv (k : Y1 × Y1) (v : Int) : Option ((Unit) ⊕ (Unit)) := iter (fun v => (wec k v).ev) v
noncomputable def wnh : LD := ⟨(yh [0, 1, 5] (yj [.dat y1, .dat y1, .dat yi])), [(0, (yh [] .nil))], (yh [4] Zh), Y1 × Y1, Int, (Unit) ⊕ (Unit), fun k v => ((k.1, (k.2, (v, ()))), ()), fun t => (t.1.1, t.1.2.1), fun t => t.1.2.2.1, wec, fun _ r => .s (Unit) (Unit) r (fun _ => .l (.exit 0 (mkSt ((ys [] .nil)) ((), ())))) (fun _ => .l (.ret (mkSt ((ys [4] Zh)) ((false, ()), ()))))⟩
noncomputable def wahn (a1_ : Y1) (a2_ : Y1) : Tr (Bool) :=
 .t (((length a1_ : Nat) : Int) != ((length a2_ : Nat) : Int))
 (.l false)
 (.c ((Unit) ⊕ (Unit)) (wrv (a1_, a2_) (0 : Int)) fun r5_ =>
 .s (Unit) (Unit) r5_
 (fun _ => .l true)
 (fun _ => .l false))
noncomputable def wrw (a1_ : Y1) (a2_ : Y1) : Option (Bool) := (wahn a1_ a2_).ev
noncomputable def waxo : RetK := yr [.tmp 4] Zh
noncomputable def wxu : FD := yd (yj [.dat y1, .dat y1]) [] [] Bool (fun x => wrw x.1.1 x.1.2.1) (fun r => ([.dat .bool r], []))
noncomputable def waho : Env := envOf []
noncomputable def wahp : List (Nat × LD) := [(0, wnh)]
noncomputable def wahq : Code := (f19.body).getD .skip
noncomputable def wed (k : Y2 × Y2) (v : Int) : Tr ((Int) ⊕ ((Unit) ⊕ (Unit))) :=
 .t (decide (v < ((length k.1 : Nat) : Int)))
 (.g (inR v (length k.1)) <|
 .g (inR v (length k.2)) <|
 .c (Bool) (wrw (getD k.1 (toNat v) ([] : Y1)) (getD k.2 (toNat v) ([] : Y1))) fun r4_ =>
 .t (!r4_)
 (.l (.inr (.inr ())))
 (.l (.inl (wrap .i64 (v + 1)))))
 (.l (.inr (.inl ())))
noncomputable def wrx (k : Y2 × Y2) (v : Int) : Option ((Unit) ⊕ (Unit)) := iter (fun v => (wed k v).ev) v
noncomputable def wni : LD := ⟨(yh [0, 1, 5] (yj [.dat y2, .dat y2, .dat yi])), [(0, (yh [] .nil))], (yh [4] Zh), Y2 × Y2, Int, (Unit) ⊕ (Unit), fun k v => ((k.1, (k.2, (v, ()))), ()), fun t => (t.1.1, t.1.2.1), fun t => t.1.2.2.1, wed, fun _ r => .s (Unit) (Unit) r (fun _ => .l (.exit 0 (mkSt ((ys [] .nil)) ((), ())))) (fun _ => .l (.ret (mkSt ((ys [4] Zh)) ((false, ()), ()))))⟩
noncomputable def wahr (a1_ : List Y1) (a2_ : List Y1) : Tr (Bool) :=
 .t (((length a1_ : Nat) : Int) != ((length a2_ : Nat) : Int))
 (.l false)
 (.c ((Unit) ⊕ (Unit)) (wrx (a1_, a2_) (0 : Int)) fun r6_ =>
 .s (Unit) (Unit) r6_
 (fun _ => .l true)
 (fun _ => .l false))
noncomputable def wxv (a1_ : List Y1) (a2_ : List Y1) : Option (Bool) := (wahr a1_ a2_).ev
noncomputable def waxp : RetK := yr [.tmp 4] Zh
noncomputable def wahs : FD := yd (yj [.dat y2, .dat y2]) [] [] Bool (fun x => wxv x.1.1 x.1.2.1) (fun r => ([.dat .bool r], []))
noncomputable def waht : Env := envOf [(19, wxu)]
noncomputable def wahu : List (Nat × LD) := [(0, wni)]
noncomputable def wahv : Code := (f15.body).getD .skip
noncomputable def wahw (a1_ : Y1) (a2_ : Int) (a3_ : Int) : Tr Ym :=
 .c Ym (wqh (7 : Int) a1_ a2_ a3_) fun r1_ =>
 .l (r1_.1, (r1_.2.1, (r1_.2.2.1, (r1_.2.2.2.1, r1_.2.2.2.2))))
noncomputable def wry (a1_ : Y1) (a2_ : Int) (a3_ : Int) : Option Ym := (wahw a1_ a2_ a3_).ev
noncomputable def waxq : RetK := { acts := [.ren 257 1, .ren 258 3], res := [.cell 2 27], sh := (yj [.agg (yj [.arr 1, .arr 3])]), obs := [(1, .arr 3 yi), (3, .rows 24 3 yi), Ze], pins := [(0, 0, 64)] }
noncomputable def wxw : FD := yd (yj [.box 64 0]) [Ze] [.arg 0] Ym (fun x => wry x.2.1.1 x.2.1.2.1 x.2.1.2.2.1) (fun r => ([.agg [.arr 1, .arr 3]], [(1, .arr 3 yi r.1), (3, .rows 24 3 yi r.2.1 none), (64, .cells [.dat Zv r.2.2.1, .dat yi r.2.2.2.1, .dat (.int .u64) r.2.2.2.2])]))
noncomputable def wahx (a1_ : Y1) : Tr (Int × Yae) :=
 .c Ym (wry a1_ (0 : Int) (0 : Int)) fun r1_ =>
 .c Yk (wia r1_.2.2.1 r1_.2.2.2.1 r1_.2.2.2.2) fun r2_ =>
 .c Yk (wia r2_.2.1 r2_.2.2.1 r2_.2.2.2) fun r3_ =>
 .c Yk (wcn ([(0 : Int), (1 : Int), (2 : Int), (3 : Int), (5 : Int), (8 : Int), (13 : Int), (21 : Int), (999 : Int), (-1 : Int), (4611686018427387904 : Int), (-9223372036854775808 : Int)] : Y1) r3_.2.1 r3_.2.2.1 r3_.2.2.2) fun r4_ =>
 .l (r2_.1, (r3_.1, (r4_.1, (r1_.1, r1_.2.1))))
noncomputable def wxx (a1_ : Y1) : Option (Int × Yae) := (wahx a1_).ev
noncomputable def waxr : RetK := { acts := [.ren 769 4, .ren 771 5], res := [.cell 2 27, .tmp 3, .tmp 4, .tmp 5], sh := (yj [.agg (yj [.arr 4, .arr 5]), .dat yi, .dat yi, .dat yi]), obs := [(4, .arr 3 yi), (5, .rows 24 3 yi)], pins := [] }
noncomputable def wahy : FD := yd (yj [.dat Zv]) [] [] (Int × Yae) (fun x => wxx x.1.1) (fun r => ([.agg [.arr 4, .arr 5], .dat yi r.1, .dat yi r.2.1, .dat yi r.2.2.1], [(4, .arr 3 yi r.2.2.2.1), (5, .rows 24 3 yi r.2.2.2.2 none)]))
noncomputable def waxs : Nat → Nat → List Nat := fun r i => match look [(3, [(0, [60000006])])] r with
 | some l => (look l i).getD []
 | none => []
noncomputable def wcb (k : Yz) (v : Int × Yl) : Tr ((Int × Yl) ⊕ Yl) :=
 .t (decide (v.2.1 < ((length v.2.2 : Nat) : Int)))
 (.g (inR v.2.1 (length v.2.2)) <|
 .g (decide ((toNat v.2.1) < length v.2.2)) <|
 .c (Bool) (k ((getD v.2.2 (toNat v.2.1) ([] : Y1)), ())) fun r6_ =>
 .t (!r6_)
 (.g (inR v.1 (length v.2.2)) <|
 .g (decide ((toNat v.1) < length v.2.2)) <|
 .l (.inl ((wrap .i64 (v.1 + 1)), ((wrap .i64 (v.2.1 + 1)), (set v.2.2 (toNat v.1) (getD v.2.2 (toNat v.2.1) ([] : Y1)))))))
 (.l (.inl (v.1, ((wrap .i64 (v.2.1 + 1)), v.2.2)))))
 (.l (.inr (v.1, v.2.2)))
noncomputable def wrz (k : Yz) (v : Int × Yl) : Option Yl := iter (fun v => (wcb k v).ev) v
noncomputable def wnj : LD := ⟨{ acts := [], S := { slots := [0, 1, 5, 6], sh := (yj [.arr 64, .clo [y1] .bool, .dat yi, .dat yi]), obs := [Zn] } }, [(0, { acts := [], S := { slots := [0, 5], sh := (yj [.arr 64, .dat yi]), obs := [Zn] } })], (yh [] .nil), Yz, Int × Yl, Int × Y2, fun k v => (((), (k, (v.1, (v.2.1, ())))), (v.2.2, ())), fun t => t.1.2.1, fun t => (t.1.2.2.1, (t.1.2.2.2.1, t.2.1)), wcb, fun _ r => .l (.exit 0 (mkSt ({ slots := [0, 5], sh := (yj [.arr 64, .dat yi]), obs := [Zn] }) (((), (r.1, ())), (r.2, ()))))⟩
noncomputable def wahz (a2_ : Yz) (a1_ : List Y1) : Tr Y2 :=
 .c (Int) (wql a1_ a2_) fun r1_ =>
 .t (r1_ == (-1 : Int))
 (.l a1_)
 (.c Yl (wrz a2_ (r1_, ((wrap .i64 (r1_ + 1)), a1_))) fun r9_ =>
 .g (decide (0 ≤ r9_.1) && decide (r9_.1 ≤ ((length r9_.2 : Nat) : Int))) <|
 .g (decide (0 ≤ r9_.1) && decide (r9_.1 ≤ ((length (List.take (toNat r9_.1) r9_.2 ++ List.replicate (length r9_.2 - (toNat r9_.1)) ([] : Y1)) : Nat) : Int))) <|
 .l (List.drop 0 (List.take (toNat r9_.1) (List.take (toNat r9_.1) r9_.2 ++ List.replicate (length r9_.2 - (toNat r9_.1)) ([] : Y1)))))
noncomputable def wxy (a2_ : Yz) (a1_ : List Y1) : Option Y2 := (wahz a2_ a1_).ev
noncomputable def waxt : RetK := { acts := [.fz 64], res := [.tmp 4], sh := (yj [.dat y2]), obs := [], pins := [], gone := [64] }
noncomputable def wxz : FD := yd (yj [.arr 64, .clo [y1] .bool]) [Zn] [.arg 0] (List Y1) (fun x => wxy x.1.2.1 x.2.1) (fun r => ([.dat y2 r], [(64, .spent)]))
noncomputable def waia : Nat → Nat → List Nat := fun r i => match look [(12, [(2, [39])])] r with
 | some l => (look l i).getD []
 | none => []
noncomputable def waib : Env := envOf [(131, wvc)]
noncomputable def waic : List (Nat × LD) := [(0, wnj)]
noncomputable def waid : Code := (f90.body).getD .skip
noncomputable def T_ze (a1_ : Y1) (a2_ : Y1) (a3_ : List Y1) (a4_ : Int) (a5_ : Int) : Tr (Bool) :=
 .c (Int) (F_zq a2_ a3_ a1_ a4_) fun r1_ =>
 .l (decide (a5_ < r1_))
noncomputable def F_ze (a1_ : Y1) (a2_ : Y1) (a3_ : List Y1) (a4_ : Int) (a5_ : Int) : Option (Bool) := (T_ze a1_ a2_ a3_ a4_ a5_).ev
noncomputable def K_ze : RetK := yr [.tmp 5] Zh
noncomputable def D_ze : FD := yd (yj [.dat y1, .ptr Zg, .ptr Zi, .ptr Zi]) [] [] Bool (fun x => F_ze x.1.1 x.1.2.1.1 x.1.2.1.2.1 x.1.2.2.1.1 x.1.2.2.2.1.1) (fun r => ([.dat .bool r], []))
noncomputable def wcc (k : ((HL [y1] → Option (Int))) × (Y2 × Int)) (v : Y1 × Int) : Tr ((Y1 × Int) ⊕ Y1) :=
 .t (decide (v.2 < k.2.2))
 (.g (inR v.2 (length k.2.1)) <|
 .c (Int) (k.1 ((getD k.2.1 (toNat v.2) ([] : Y1)), ())) fun r6_ =>
 .c (Int) (k.1 (v.1, ())) fun r7_ =>
 .t (decide (r6_ < r7_))
 (.l (.inl ((getD k.2.1 (toNat v.2) ([] : Y1)), (wrap .i64 (v.2 + 1)))))
 (.l (.inl (v.1, (wrap .i64 (v.2 + 1))))))
 (.l (.inr v.1))
noncomputable def wsa (k : ((HL [y1] → Option (Int))) × (Y2 × Int)) (v : Y1 × Int) : Option Y1 := iter (fun v => (wcc k v).ev) v
noncomputable def wnk : LD := ⟨(yh [1, 5, 11, 12, 13] (yj [.clo [y1] yi, .dat y1, .dat y2, .dat yi, .dat yi])), [(0, (yh [5] (yj [.dat y1])))], (yh [] .nil), ((HL [y1] → Option (Int))) × (Y2 × Int), Y1 × (Int), Y1, fun k v => ((k.1, (v.1, (k.2.1, (k.2.2, (v.2, ()))))), ()), fun t => (t.1.1, (t.1.2.2.1, t.1.2.2.2.1)), fun t => (t.1.2.1, t.1.2.2.2.2.1), wcc, fun _ r => .l (.exit 0 (mkSt ((ys [5] (yj [.dat y1]))) ((r, ()), ())))⟩
noncomputable def waie (a1_ : List Y1) (a2_ : (HL [y1] → Option (Int))) : Tr Y1 :=
 .g (inR 0 (length a1_)) <|
 .c Y1 (wsa (a2_, (a1_, ((length a1_ : Nat) : Int))) ((getD a1_ (toNat 0) ([] : Y1)), (0 : Int))) fun r9_ =>
 .l r9_
noncomputable def wya (a1_ : List Y1) (a2_ : (HL [y1] → Option (Int))) : Option Y1 := (waie a1_ a2_).ev
noncomputable def waxw : RetK := yr [.tmp 4] (yj [.dat y1])
noncomputable def wyb : FD := yd (yj [.dat y2, .clo [y1] yi]) [] [] Y1 (fun x => wya x.1.1 x.1.2.1) (fun r => ([.dat y1 r], []))
noncomputable def waif : Env := envOf []
noncomputable def waig : List (Nat × LD) := [(0, wnk)]
noncomputable def waih : Code := (f94.body).getD .skip
noncomputable def T_zf (a1_ : Y1) (a2_ : Y1) (a3_ : List Y1) (a4_ : Int) : Tr (Int) :=
 .c (Int) (F_zq a2_ a3_ a1_ a4_) fun r1_ =>
 .l r1_
noncomputable def F_zf (a1_ : Y1) (a2_ : Y1) (a3_ : List Y1) (a4_ : Int) : Option (Int) := (T_zf a1_ a2_ a3_ a4_).ev
noncomputable def K_zf : RetK := yr [.tmp 4] Zi
noncomputable def D_zf : FD := yd (yj [.dat y1, .ptr Zg, .ptr Zi]) [] [] Int (fun x => F_zf x.1.1 x.1.2.1.1 x.1.2.1.2.1 x.1.2.2.1.1) (fun r => ([.dat yi r], []))
noncomputable def T_zd (a1_ : Y1) (a2_ : List Y1) (a3_ : Int) (a4_ : Int) (a5_ : Int) : Tr (Y1 × (Bool)) :=
 .c (Bool) (wom a1_ a2_ a3_ a4_) fun r1_ =>
 .t (!r1_)
 (.l (([] : Y1), false))
 (.c Y2 (wjy ((length a1_ : Nat) : Int)) fun r2_ =>
 .c Y2 (wxy (fun h3_ => Option.bind (F_ze h3_.1 a1_ a2_ a4_ a5_) fun y4_ => some y4_) r2_) fun r5_ =>
 .t (((length r5_ : Nat) : Int) == (0 : Int))
 (.l (([] : Y1), false))
 (.c Y1 (wya r5_ (fun h6_ => Option.bind (F_zf h6_.1 a1_ a2_ a3_) fun y7_ => some y7_)) fun r8_ =>
 .l (r8_, true)))
noncomputable def F_zd (a1_ : Y1) (a2_ : List Y1) (a3_ : Int) (a4_ : Int) (a5_ : Int) : Option (Y1 × (Bool)) := (T_zd a1_ a2_ a3_ a4_ a5_).ev
noncomputable def K_zd : RetK := yr [.tmp 8, .tmp 9] (yj [.dat y1, .dat .bool])
noncomputable def D_zd : FD := yd (yj [.agg Zg, .dat yi, .dat yi, .dat yi]) [] [] (Y1 × (Bool)) (fun x => F_zd x.1.1.1 x.1.1.2.1 x.1.2.1 x.1.2.2.1 x.1.2.2.2.1) (fun r => ([.dat y1 r.1, .dat .bool r.2], []))
noncomputable def wbd (k : Int × (Int × (Int × (Y2 × Yt)))) (v : Y1 × Int) : Tr ((Y1 × Int) ⊕ Y1) :=
 .t (decide (v.2 < ((length k.2.2.2.1 : Nat) : Int)))
 (.g (inR v.2 (length k.2.2.2.1)) <|
 .c (Int) (wgf k.2.2.2.2.1 k.2.2.2.2.2 (getD k.2.2.2.1 (toNat v.2) ([] : Y1)) k.2.1) fun r22_ =>
 .t (decide (r22_ ≤ k.2.2.1))
 (.t (((length v.1 : Nat) : Int) == (0 : Int))
 (.g (inR v.2 (length k.2.2.2.1)) <|
 .l (.inl ((getD k.2.2.2.1 (toNat v.2) ([] : Y1)), (wrap .i64 (v.2 + 1)))))
 (.g (inR v.2 (length k.2.2.2.1)) <|
 .c (Int) (wgf k.2.2.2.2.1 k.2.2.2.2.2 (getD k.2.2.2.1 (toNat v.2) ([] : Y1)) k.1) fun r23_ =>
 .c (Int) (wgf k.2.2.2.2.1 k.2.2.2.2.2 v.1 k.1) fun r24_ =>
 .t (decide (r23_ < r24_))
 (.g (inR v.2 (length k.2.2.2.1)) <|
 .l (.inl ((getD k.2.2.2.1 (toNat v.2) ([] : Y1)), (wrap .i64 (v.2 + 1)))))
 (.l (.inl (v.1, (wrap .i64 (v.2 + 1)))))))
 (.l (.inl (v.1, (wrap .i64 (v.2 + 1))))))
 (.l (.inr v.1))
noncomputable def wsb (k : Int × (Int × (Int × (Y2 × Yt)))) (v : Y1 × Int) : Option Y1 := iter (fun v => (wbd k v).ev) v
noncomputable def wnl : LD := ⟨{ acts := [.fz 13], S := { slots := [1, 2, 3, 4, 10, 11, 12], sh := (yj [.dat yi, .dat yi, .dat yi, .box 4 0, .dat y1, .dat y2, .dat yi]), obs := [(4, .cells Zg)] } }, [(0, (yh [10] (yj [.dat y1])))], (yh [] .nil), Int × (Int × (Int × (Y2 × Yt))), Y1 × (Int), Y1, fun k v => ((k.1, (k.2.1, (k.2.2.1, ((), (v.1, (k.2.2.2.1, (v.2, ()))))))), ((k.2.2.2.2.1, (k.2.2.2.2.2, ())), ())), fun t => (t.1.1, (t.1.2.1, (t.1.2.2.1, (t.1.2.2.2.2.2.1, (t.2.1.1, t.2.1.2.1))))), fun t => (t.1.2.2.2.2.1, t.1.2.2.2.2.2.2.1), wbd, fun _ r => .l (.exit 0 (mkSt ((ys [10] (yj [.dat y1]))) ((r, ()), ())))⟩
noncomputable def waii (a1_ : Y1) (a2_ : List Y1) (a3_ : Int) (a4_ : Int) (a5_ : Int) : Tr (Y1 × (Bool)) :=
 .c (Bool) (wot a1_ a2_ a3_ a4_) fun r1_ =>
 .t (!r1_)
 (.l (([] : Y1), false))
 (.c Y2 (wou ((length a1_ : Nat) : Int)) fun r2_ =>
 .c Y1 (wsb (a3_, (a4_, (a5_, (r2_, (a1_, a2_))))) (([] : Y1), (0 : Int))) fun r26_ =>
 .l (r26_, (decide ((0 : Int) < ((length r26_ : Nat) : Int)))))
noncomputable def wyc (a1_ : Y1) (a2_ : List Y1) (a3_ : Int) (a4_ : Int) (a5_ : Int) : Option (Y1 × (Bool)) := (waii a1_ a2_ a3_ a4_ a5_).ev
noncomputable def wayb : RetK := { acts := [.fz 13], res := [.tmp 8, .tmp 9], sh := (yj [.dat y1, .dat .bool]), obs := [], pins := [] }
noncomputable def waij : FD := yd (yj [.agg Zg, .dat yi, .dat yi, .dat yi]) [] [] (Y1 × (Bool)) (fun x => wyc x.1.1.1 x.1.1.2.1 x.1.2.1 x.1.2.2.1 x.1.2.2.2.1) (fun r => ([.dat y1 r.1, .dat .bool r.2], []))
noncomputable def waik : Env := envOf [(87, wrj), (96, wxc), (97, wrr)]
noncomputable def wail : List (Nat × LD) := [(0, wnl)]
noncomputable def waim : Code := (f18.body).getD .skip
noncomputable def wain (a4_ : Y1) (_a5_ : List Y1) (a1_ : Y1) (a2_ : Int) (a3_ : Int) : Tr (Y1 × (Y1 × Yf)) :=
 .c (Int) (wqc ((length a4_ : Nat) : Int) (7 : Int)) fun r1_ =>
 .g (decide (0 ≤ r1_)) <|
 .c Yk (wba (wrap .i64 ((1 : Int) * 2 ^ (min (toNat r1_) (IntKind.bits .i64)))) a1_ a2_ a3_) fun r2_ =>
 .c Y1 (wkk r1_ (wrap .i64 ((1 : Int) + r2_.1))) fun r3_ =>
 .c (Bool × (Y1 × Yf)) (whz (20 : Int) r2_.2.1 r2_.2.2.1 r2_.2.2.2) fun r4_ =>
 .t r4_.1
 (.c Yk (wcn ([(-1 : Int), (0 : Int), r1_] : Y1) r4_.2.1 r4_.2.2.1 r4_.2.2.2) fun r5_ =>
 .g (decide ((length r3_ + length ([r5_.1] : Y1)) * 8 ≤ 140737488355328)) <|
 .t (((length (r3_ ++ ([r5_.1] : Y1)) : Nat) : Int) == (0 : Int))
 (.t (decide (0 < r1_))
 (.c (Bool × (Y1 × Yf)) (whz (6 : Int) r5_.2.1 r5_.2.2.1 r5_.2.2.2) fun r6_ =>
 .t (!r6_.1)
 (.c Yk (wba r1_ r6_.2.1 r6_.2.2.1 r6_.2.2.2) fun r7_ =>
 .l (([r7_.1] : Y1), (r7_.2.1, (r7_.2.2.1, r7_.2.2.2))))
 (.l ((r3_ ++ ([r5_.1] : Y1)), (r6_.2.1, (r6_.2.2.1, r6_.2.2.2)))))
 (.l ((r3_ ++ ([r5_.1] : Y1)), (r5_.2.1, (r5_.2.2.1, r5_.2.2.2)))))
 (.l ((r3_ ++ ([r5_.1] : Y1)), (r5_.2.1, (r5_.2.2.1, r5_.2.2.2)))))
 (.t (((length r3_ : Nat) : Int) == (0 : Int))
 (.t (decide (0 < r1_))
 (.c (Bool × (Y1 × Yf)) (whz (6 : Int) r4_.2.1 r4_.2.2.1 r4_.2.2.2) fun r8_ =>
 .t (!r8_.1)
 (.c Yk (wba r1_ r8_.2.1 r8_.2.2.1 r8_.2.2.2) fun r9_ =>
 .l (([r9_.1] : Y1), (r9_.2.1, (r9_.2.2.1, r9_.2.2.2))))
 (.l (r3_, (r8_.2.1, (r8_.2.2.1, r8_.2.2.2)))))
 (.l (r3_, (r4_.2.1, (r4_.2.2.1, r4_.2.2.2)))))
 (.l (r3_, (r4_.2.1, (r4_.2.2.1, r4_.2.2.2)))))
noncomputable def wyd (a4_ : Y1) (a5_ : List Y1) (a1_ : Y1) (a2_ : Int) (a3_ : Int) : Option (Y1 × (Y1 × Yf)) := (wain a4_ a5_ a1_ a2_ a3_).ev
noncomputable def wayc : RetK := { acts := [.pin 4 0], res := [.tmp 4], sh := (yj [.arr 0]), obs := [(0, .arr 3 yi), Ze], pins := [(0, 0, 64)] }
noncomputable def waio : FD := yd (yj [.box 64 0, .agg Zg]) [Ze] [.arg 0] (Y1 × (Y1 × Yf)) (fun x => wyd x.1.2.1.1 x.1.2.1.2.1 x.2.1.1 x.2.1.2.1 x.2.1.2.2.1) (fun r => ([.arr 0], [(0, .arr 3 yi r.1), (64, .cells [.dat Zv r.2.1, .dat yi r.2.2.1, .dat (.int .u64) r.2.2.2])]))
noncomputable def wayd : Nat → Nat → List Nat := fun r i => match look [(4, [(4, [23])])] r with
 | some l => (look l i).getD []
 | none => []
noncomputable def waip (a1_ : Y1) : Tr (Y1 × (Y2 × Yam)) :=
 .c Ym (wry a1_ (0 : Int) (0 : Int)) fun r1_ =>
 .c (Y1 × (Y1 × Yf)) (wyd r1_.1 r1_.2.1 r1_.2.2.1 r1_.2.2.2.1 r1_.2.2.2.2) fun r2_ =>
 .c Yk (wia r2_.2.1 r2_.2.2.1 r2_.2.2.2) fun r3_ =>
 .l (r1_.1, (r1_.2.1, (r3_.1, r2_.1)))
noncomputable def wye (a1_ : Y1) : Option (Y1 × (Y2 × Yam)) := (waip a1_).ev
noncomputable def waye : RetK := { acts := [.ren 960 1], res := [.cell 2 27, .tmp 3, .tmp 4], sh := (yj [.agg Zg, .arr 1, .dat yi]), obs := [(1, .arr 3 yi)], pins := [] }
noncomputable def waiq : FD := yd (yj [.dat Zv]) [] [] (Y1 × (Y2 × Yam)) (fun x => wye x.1.1) (fun r => ([.agg [.dat y1 r.1, .dat y2 r.2.1], .arr 1, .dat yi r.2.2.1], [(1, .arr 3 yi r.2.2.2)]))
noncomputable def wayf : Nat → Nat → List Nat := fun r i => match look [(3, [(0, [70000705, 70000707])])] r with
 | some l => (look l i).getD []
 | none => []
noncomputable def wcd (k : Y1 × (Int × (Y1 × Int))) (v : Int) : Tr ((Int) ⊕ ((Unit) ⊕ (Unit))) :=
 .t (decide (v < k.2.2.2))
 (.g (inR v (length k.2.2.1)) <|
 .c (Bool) (wjj (getD k.2.2.1 (toNat v) 0) (0 : Int) (wrap .i64 (k.2.1 - 1))) fun r6_ =>
 .t (!r6_)
 (.l (.inr (.inr ())))
 (.t (decide (0 < v))
 (.g (inR (wrap .i64 (v - 1)) (length k.1)) <|
 .t (decide ((getD k.2.2.1 (toNat v) 0) ≤ (getD k.1 (toNat (wrap .i64 (v - 1))) (0 : Int))))
 (.l (.inr (.inr ())))
 (.l (.inl (wrap .i64 (v + 1)))))
 (.l (.inl (wrap .i64 (v + 1))))))
 (.l (.inr (.inl ())))
noncomputable def wsc (k : Y1 × (Int × (Y1 × Int))) (v : Int) : Option ((Unit) ⊕ (Unit)) := iter (fun v => (wcd k v).ev) v
noncomputable def wno : LD := ⟨(yh [0, 1, 7, 8, 9] (yj [.dat y1, .dat yi, .dat y1, .dat yi, .dat yi])), [(0, (yh [] .nil))], (yh [4] Zh), Y1 × (Int × (Y1 × Int)), Int, (Unit) ⊕ (Unit), fun k v => ((k.1, (k.2.1, (k.2.2.1, (k.2.2.2, (v, ()))))), ()), fun t => (t.1.1, (t.1.2.1, (t.1.2.2.1, t.1.2.2.2.1))), fun t => t.1.2.2.2.2.1, wcd, fun _ r => .s (Unit) (Unit) r (fun _ => .l (.exit 0 (mkSt ((ys [] .nil)) ((), ())))) (fun _ => .l (.ret (mkSt ((ys [4] Zh)) ((false, ()), ()))))⟩
noncomputable def wair (a1_ : Y1) (a2_ : Int) : Tr (Bool) :=
 .c ((Unit) ⊕ (Unit)) (wsc (a1_, (a2_, (a1_, ((length a1_ : Nat) : Int)))) (0 : Int)) fun r8_ =>
 .s (Unit) (Unit) r8_
 (fun _ => .l true)
 (fun _ => .l false)
noncomputable def wyf (a1_ : Y1) (a2_ : Int) : Option (Bool) := (wair a1_ a2_).ev
noncomputable def wayg : RetK := yr [.tmp 4] Zh
noncomputable def wais : FD := yd (yj [.dat y1, .dat yi]) [] [] Bool (fun x => wyf x.1.1 x.1.2.1) (fun r => ([.dat .bool r], []))
noncomputable def waiu : Env := envOf [(104, wok)]
noncomputable def waiv : List (Nat × LD) := [(0, wno)]
noncomputable def waiw : Code := (f117.body).getD .skip
noncomputable def T_zi (a1_ : Y1) (_a2_ : List Y1) (a3_ : Y1) : Tr (Bool) :=
 .t (decide ((0 : Int) < ((length a3_ : Nat) : Int)))
 (.c (Bool) (wyf a3_ ((length a1_ : Nat) : Int)) fun r1_ =>
 .l r1_)
 (.l false)
noncomputable def F_zi (a1_ : Y1) (a2_ : List Y1) (a3_ : Y1) : Option (Bool) := (T_zi a1_ a2_ a3_).ev
noncomputable def K_zi : RetK := yr [.tmp 4] Zh
noncomputable def D_zi : FD := yd (yj [.agg Zg, .dat y1]) [] [] Bool (fun x => F_zi x.1.1.1 x.1.1.2.1 x.1.2.1) (fun r => ([.dat .bool r], []))
noncomputable def waix (a1_ : Y1) (a2_ : List Y1) (a3_ : Y1) : Tr (Bool) :=
 .c (Bool) (F_zt a1_ a2_) fun r1_ =>
 .t r1_
 (.c (Bool) (F_zi a1_ a2_ a3_) fun r2_ =>
 .l r2_)
 (.l false)
noncomputable def wyg (a1_ : Y1) (a2_ : List Y1) (a3_ : Y1) : Option (Bool) := (waix a1_ a2_ a3_).ev
noncomputable def wayk : RetK := yr [.tmp 4] Zh
noncomputable def waiy : FD := yd (yj [.agg Zg, .dat y1]) [] [] Bool (fun x => wyg x.1.1.1 x.1.1.2.1 x.1.2.1) (fun r => ([.dat .bool r], []))
noncomputable def T_zv (a1_ : Y1) (a2_ : List Y1) (a3_ : Y1) (a4_ : Int) : Tr (Int × (Bool)) :=
 .c (Bool) (wyg a1_ a2_ a3_) fun r1_ =>
 .t (!r1_)
 (.l ((0 : Int), false))
 (.c (Bool) (wol a4_) fun r2_ =>
 .t (!r2_)
 (.l ((0 : Int), false))
 (.c (Int) (F_zq a1_ a2_ a3_ a4_) fun r3_ =>
 .l (r3_, true)))
noncomputable def wow (a1_ : Y1) (a2_ : List Y1) (a3_ : Y1) (a4_ : Int) : Option (Int × (Bool)) := (T_zv a1_ a2_ a3_ a4_).ev
noncomputable def K_zv : RetK := yr [.tmp 6, .tmp 7] (yj [.dat yi, .dat .bool])
noncomputable def D_zv : FD := yd (yj [.agg Zg, .dat y1, .dat yi]) [] [] (Int × (Bool)) (fun x => wow x.1.1.1 x.1.1.2.1 x.1.2.1 x.1.2.2.1) (fun r => ([.dat yi r.1, .dat .bool r.2], []))
noncomputable def wce (k : Y1 × Yf) (v : Int) : Tr ((Int) ⊕ ((Unit) ⊕ (Unit))) :=
 .t (decide (v < ((length k.1 : Nat) : Int)))
 (.g (inR v (length k.1)) <|
 .c (Bool) (wkj (getD k.1 (toNat v) 0) k.2.1 k.2.2) fun r5_ =>
 .t (!r5_)
 (.l (.inr (.inr ())))
 (.t (decide (0 < v))
 (.g (inR (wrap .i64 (v - 1)) (length k.1)) <|
 .g (inR v (length k.1)) <|
 .t (decide ((getD k.1 (toNat v) 0) ≤ (getD k.1 (toNat (wrap .i64 (v - 1))) (0 : Int))))
 (.l (.inr (.inr ())))
 (.l (.inl (wrap .i64 (v + 1)))))
 (.l (.inl (wrap .i64 (v + 1))))))
 (.l (.inr (.inl ())))
noncomputable def wsd (k : Y1 × Yf) (v : Int) : Option ((Unit) ⊕ (Unit)) := iter (fun v => (wce k v).ev) v
noncomputable def wnp : LD := ⟨(yh [0, 1, 2, 7] (yj [.dat y1, .dat yi, .dat yi, .dat yi])), [(0, (yh [] .nil))], (yh [6] Zh), Y1 × Yf, Int, (Unit) ⊕ (Unit), fun k v => ((k.1, (k.2.1, (k.2.2, (v, ())))), ()), fun t => (t.1.1, (t.1.2.1, t.1.2.2.1)), fun t => t.1.2.2.2.1, wce, fun _ r => .s (Unit) (Unit) r (fun _ => .l (.exit 0 (mkSt ((ys [] .nil)) ((), ())))) (fun _ => .l (.ret (mkSt ((ys [6] Zh)) ((false, ()), ()))))⟩
noncomputable def waiz (a1_ : Y1) (a2_ : Int) (a3_ : Int) : Tr (Bool) :=
 .c ((Unit) ⊕ (Unit)) (wsd (a1_, (a2_, a3_)) (0 : Int)) fun r7_ =>
 .s (Unit) (Unit) r7_
 (fun _ => .l true)
 (fun _ => .l false)
noncomputable def wyh (a1_ : Y1) (a2_ : Int) (a3_ : Int) : Option (Bool) := (waiz a1_ a2_ a3_).ev
noncomputable def wayn : RetK := yr [.tmp 6] Zh
noncomputable def waja : FD := yd (yj [.dat y1, .dat yi, .dat yi]) [] [] Bool (fun x => wyh x.1.1 x.1.2.1 x.1.2.2.1) (fun r => ([.dat .bool r], []))
noncomputable def wajb : Env := envOf [(130, wor)]
noncomputable def wajc : List (Nat × LD) := [(0, wnp)]
noncomputable def wajd : Code := (f122.body).getD .skip
noncomputable def waje (a1_ : Y1) (_a2_ : List Y1) (a3_ : Y1) : Tr (Bool) :=
 .c (Bool) (wyh a3_ (0 : Int) (wrap .i64 (((length a1_ : Nat) : Int) - 1))) fun r1_ =>
 .l r1_
noncomputable def wyi (a1_ : Y1) (a2_ : List Y1) (a3_ : Y1) : Option (Bool) := (waje a1_ a2_ a3_).ev
noncomputable def wayo : RetK := yr [.tmp 4] Zh
noncomputable def wajf : FD := yd (yj [.agg Zg, .dat y1]) [] [] Bool (fun x => wyi x.1.1.1 x.1.1.2.1 x.1.2.1) (fun r => ([.dat .bool r], []))
noncomputable def wajg (a1_ : Y1) (a2_ : List Y1) (a3_ : Y1) : Tr (Bool) :=
 .c (Bool) (wri a1_ a2_) fun r1_ =>
 .t r1_
 (.c (Bool) (wyi a1_ a2_ a3_) fun r2_ =>
 .t r2_
 (.l (decide ((0 : Int) < ((length a3_ : Nat) : Int))))
 (.l false))
 (.l false)
noncomputable def wyj (a1_ : Y1) (a2_ : List Y1) (a3_ : Y1) : Option (Bool) := (wajg a1_ a2_ a3_).ev
noncomputable def wayp : RetK := yr [.tmp 4] Zh
noncomputable def wajh : FD := yd (yj [.agg Zg, .dat y1]) [] [] Bool (fun x => wyj x.1.1.1 x.1.1.2.1 x.1.2.1) (fun r => ([.dat .bool r], []))
noncomputable def waji (a1_ : Y1) (a2_ : List Y1) (a3_ : Y1) (a4_ : Int) : Tr (Int × (Bool)) :=
 .c (Bool) (wyj a1_ a2_ a3_) fun r1_ =>
 .t (!r1_)
 (.l ((0 : Int), false))
 (.c (Bool) (wos a4_) fun r2_ =>
 .t (!r2_)
 (.l ((0 : Int), false))
 (.c (Int) (wgf a1_ a2_ a3_ a4_) fun r3_ =>
 .l (r3_, true)))
noncomputable def wyk (a1_ : Y1) (a2_ : List Y1) (a3_ : Y1) (a4_ : Int) : Option (Int × (Bool)) := (waji a1_ a2_ a3_ a4_).ev
noncomputable def wayq : RetK := yr [.tmp 6, .tmp 7] (yj [.dat yi, .dat .bool])
noncomputable def wajj : FD := yd (yj [.agg Zg, .dat y1, .dat yi]) [] [] (Int × (Bool)) (fun x => wyk x.1.1.1 x.1.1.2.1 x.1.2.1 x.1.2.2.1) (fun r => ([.dat yi r.1, .dat .bool r.2], []))
noncomputable def wee (k : Y1 × (Int × (Int × (Bool × ((List Yf) × Yab))))) (v : Int) : Tr ((Int) ⊕ ((Unit) ⊕ (Unit))) :=
 .t (decide (v < ((length k.2.2.2.2.2.2.2 : Nat) : Int)))
 (.g (inR v (length k.2.2.2.2.2.2.2)) <|
 .g (decide ((toNat v) < length k.2.2.2.2.2.2.2)) <|
 .g (inR v (length k.2.2.2.2.1)) <|
 .t (!(((getD k.2.2.2.2.2.2.2 (toNat v) ((0 : Int), (0 : Int))).1 == (getD k.2.2.2.2.1 (toNat v) ((0 : Int), (0 : Int))).1) && (((getD k.2.2.2.2.2.2.2 (toNat v) ((0 : Int), (0 : Int))).2 == (getD k.2.2.2.2.1 (toNat v) ((0 : Int), (0 : Int))).2) && true)))
 (.l (.inr (.inr ())))
 (.l (.inl (wrap .i64 (v + 1)))))
 (.l (.inr (.inl ())))
noncomputable def wsf (k : Y1 × (Int × (Int × (Bool × ((List Yf) × Yab))))) (v : Int) : Option ((Unit) ⊕ (Unit)) := iter (fun v => (wee k v).ev) v
noncomputable def wnq : LD := ⟨{ acts := [], S := { slots := [0, 3, 4, 5, 6, 7, 8, 10], sh := (yj [.dat Zv, .box 3 0, .dat yi, .dat yi, .arr 4096, .dat .bool, .dat (.slice (.pair yi yi)), .dat yi]), obs := [Zaf, (4096, .arr 33 (.pair yi yi))] } }, [(0, { acts := [], S := { slots := [0, 3, 4, 5, 6, 7], sh := (yj [.dat Zv, .box 3 0, .dat yi, .dat yi, .arr 4096, .dat .bool]), obs := [Zaf, (4096, .arr 33 (.pair yi yi))] } })], (yh [2] Zh), Y1 × (Int × (Int × (Bool × ((List Yf) × Yab)))), Int, (Unit) ⊕ (Unit), fun k v => ((k.1, ((), (k.2.1, (k.2.2.1, ((), (k.2.2.2.1, (k.2.2.2.2.1, (v, ())))))))), ((k.2.2.2.2.2.1, (k.2.2.2.2.2.2.1, ())), (k.2.2.2.2.2.2.2, ()))), fun t => (t.1.1, (t.1.2.2.1, (t.1.2.2.2.1, (t.1.2.2.2.2.2.1, (t.1.2.2.2.2.2.2.1, (t.2.1.1, (t.2.1.2.1, t.2.2.1))))))), fun t => t.1.2.2.2.2.2.2.2.1, wee, fun k r => .s (Unit) (Unit) r (fun _ => .l (.exit 0 (mkSt ({ slots := [0, 3, 4, 5, 6, 7], sh := (yj [.dat Zv, .box 3 0, .dat yi, .dat yi, .arr 4096, .dat .bool]), obs := [Zaf, (4096, .arr 33 (.pair yi yi))] }) ((k.1, ((), (k.2.1, (k.2.2.1, ((), (k.2.2.2.1, ())))))), ((k.2.2.2.2.2.1, (k.2.2.2.2.2.2.1, ())), (k.2.2.2.2.2.2.2, ())))))) (fun _ => .l (.ret (mkSt ((ys [2] Zh)) ((false, ()), ()))))⟩
noncomputable def wap (k : Int × Yad) (v : Bool × Int) : Tr ((Bool × Int) ⊕ ((Bool) ⊕ (Unit))) :=
 .t (decide (v.2 < ((length k.2.2.2.2.2.2.2.2.2.2.2.2.2 : Nat) : Int)))
 (.t (!v.1)
 (.g (inR v.2 (length k.2.2.2.2.2.2.2.2.2.2.2.2.2)) <|
 .g (decide ((toNat v.2) < length k.2.2.2.2.2.2.2.2.2.2.2.2.2)) <|
 .t (decide ((getD k.2.2.2.2.2.2.2.2.2.2.2.2.2 (toNat v.2) ((0 : Int), (0 : Int))).2 ≤ k.2.2.2.1))
 (.g (inR v.2 (length k.2.2.2.2.2.2.2.2.2.2.2.2.2)) <|
 .g (decide ((toNat v.2) < length k.2.2.2.2.2.2.2.2.2.2.2.2.2)) <|
 .t (!((getD k.2.2.2.2.2.2.2.2.2.2.2.2.2 (toNat v.2) ((0 : Int), (0 : Int))).1 == k.2.2.2.2.2.1))
 (.l (.inr (.inr ())))
 (.l (.inl (((getD k.2.2.2.2.2.2.2.2.2.2.2.2.2 (toNat v.2) ((0 : Int), (0 : Int))).1 == k.2.2.2.2.2.1), (wrap .i64 (v.2 + 1))))))
 (.l (.inl (v.1, (wrap .i64 (v.2 + 1))))))
 (.l (.inr (.inl v.1))))
 (.l (.inr (.inl v.1)))
noncomputable def wgg (k : Int × Yad) (v : Bool × Int) : Option ((Bool) ⊕ (Unit)) := iter (fun v => (wap k v).ev) v
noncomputable def wnr : LD := ⟨{ acts := [], S := { slots := [3, 4, 5, 6, 7, 11, 18, 30, 31, 32, 33, 34, 35, 36, 37], sh := (yj [.box 3 0, .dat yi, .dat yi, .arr 4096, .dat .bool, .arr 6592, .dat yi, .arr 12288, .dat .bool, .dat yi, .dat .bool, .dat yi, .dat .bool, .dat .bool, .dat yi]), obs := [Zaf, (4096, .arr 33 (.pair yi yi)), (6592, .arr 24 y1), (12288, .arr 33 (.pair yi yi))] } }, [(2, { acts := [], S := { slots := [3, 4, 5, 6, 7, 11, 18, 31, 33, 34, 35, 36], sh := (yj [.box 3 0, .dat yi, .dat yi, .arr 4096, .dat .bool, .arr 6592, .dat yi, .dat .bool, .dat .bool, .dat yi, .dat .bool, .dat .bool]), obs := [Zaf, (4096, .arr 33 (.pair yi yi)), (6592, .arr 24 y1)] } })], (yh [2] Zh), Int × Yad, Bool × (Int), (Bool) ⊕ (Unit), fun k v => (((), (k.1, (k.2.1, ((), (k.2.2.1, ((), (k.2.2.2.1, ((), (k.2.2.2.2.1, (k.2.2.2.2.2.1, (k.2.2.2.2.2.2.1, (k.2.2.2.2.2.2.2.1, (k.2.2.2.2.2.2.2.2.1, (v.1, (v.2, ()))))))))))))))), ((k.2.2.2.2.2.2.2.2.2.1, (k.2.2.2.2.2.2.2.2.2.2.1, ())), (k.2.2.2.2.2.2.2.2.2.2.2.1, (k.2.2.2.2.2.2.2.2.2.2.2.2.1, (k.2.2.2.2.2.2.2.2.2.2.2.2.2, ()))))), fun t => (t.1.2.1, (t.1.2.2.1, (t.1.2.2.2.2.1, (t.1.2.2.2.2.2.2.1, (t.1.2.2.2.2.2.2.2.2.1, (t.1.2.2.2.2.2.2.2.2.2.1, (t.1.2.2.2.2.2.2.2.2.2.2.1, (t.1.2.2.2.2.2.2.2.2.2.2.2.1, (t.1.2.2.2.2.2.2.2.2.2.2.2.2.1, (t.2.1.1, (t.2.1.2.1, (t.2.2.1, (t.2.2.2.1, t.2.2.2.2.1))))))))))))), fun t => (t.1.2.2.2.2.2.2.2.2.2.2.2.2.2.1, t.1.2.2.2.2.2.2.2.2.2.2.2.2.2.2.1), wap, fun k r => .s (Bool) (Unit) r (fun a => .l (.exit 2 (mkSt ({ slots := [3, 4, 5, 6, 7, 11, 18, 31, 33, 34, 35, 36], sh := (yj [.box 3 0, .dat yi, .dat yi, .arr 4096, .dat .bool, .arr 6592, .dat yi, .dat .bool, .dat .bool, .dat yi, .dat .bool, .dat .bool]), obs := [Zaf, (4096, .arr 33 (.pair yi yi)), (6592, .arr 24 y1)] }) (((), (k.1, (k.2.1, ((), (k.2.2.1, ((), (k.2.2.2.1, (k.2.2.2.2.1, (k.2.2.2.2.2.2.1, (k.2.2.2.2.2.2.2.1, (k.2.2.2.2.2.2.2.2.1, (a, ())))))))))))), ((k.2.2.2.2.2.2.2.2.2.1, (k.2.2.2.2.2.2.2.2.2.2.1, ())), (k.2.2.2.2.2.2.2.2.2.2.2.1, (k.2.2.2.2.2.2.2.2.2.2.2.2.1, ()))))))) (fun _ => .l (.ret (mkSt ((ys [2] Zh)) ((false, ()), ()))))⟩
noncomputable def wcf (k : Int × (Int × (Y1 × (Y2 × Yo)))) (v : Int) : Tr ((Int) ⊕ ((Unit) ⊕ (Unit))) :=
 .t (decide (v < ((length k.2.2.2.2.1 : Nat) : Int)))
 (.g (inR v (length k.2.2.2.2.2)) <|
 .g (decide ((toNat v) < length k.2.2.2.2.2)) <|
 .c (Int × (Bool)) (wow k.2.2.1 k.2.2.2.1 (getD k.2.2.2.2.2 (toNat v) ([] : Y1)) k.1) fun r78_ =>
 .g (inR v (length k.2.2.2.2.2)) <|
 .g (decide ((toNat v) < length k.2.2.2.2.2)) <|
 .c (Int × (Bool)) (wow k.2.2.1 k.2.2.2.1 (getD k.2.2.2.2.2 (toNat v) ([] : Y1)) k.2.1) fun r79_ =>
 .t (!r78_.2)
 (.l (.inr (.inr ())))
 (.t (!r79_.2)
 (.l (.inr (.inr ())))
 (.g (inR v (length k.2.2.2.2.1)) <|
 .g (decide ((toNat v) < length k.2.2.2.2.1)) <|
 .t (!(((getD k.2.2.2.2.1 (toNat v) ((0 : Int), (0 : Int))).1 == r78_.1) && (((getD k.2.2.2.2.1 (toNat v) ((0 : Int), (0 : Int))).2 == r79_.1) && true)))
 (.l (.inr (.inr ())))
 (.t (decide (0 < v))
 (.g (inR v (length k.2.2.2.2.1)) <|
 .g (decide ((toNat v) < length k.2.2.2.2.1)) <|
 .g (inR (wrap .i64 (v - 1)) (length k.2.2.2.2.1)) <|
 .g (decide ((toNat (wrap .i64 (v - 1))) < length k.2.2.2.2.1)) <|
 .t (decide ((getD k.2.2.2.2.1 (toNat v) ((0 : Int), (0 : Int))).1 ≤ (getD k.2.2.2.2.1 (toNat (wrap .i64 (v - 1))) ((0 : Int), (0 : Int))).1))
 (.l (.inr (.inr ())))
 (.g (inR v (length k.2.2.2.2.1)) <|
 .g (decide ((toNat v) < length k.2.2.2.2.1)) <|
 .g (inR (wrap .i64 (v - 1)) (length k.2.2.2.2.1)) <|
 .g (decide ((toNat (wrap .i64 (v - 1))) < length k.2.2.2.2.1)) <|
 .t (decide ((getD k.2.2.2.2.1 (toNat (wrap .i64 (v - 1))) ((0 : Int), (0 : Int))).2 ≤ (getD k.2.2.2.2.1 (toNat v) ((0 : Int), (0 : Int))).2))
 (.l (.inr (.inr ())))
 (.l (.inl (wrap .i64 (v + 1))))))
 (.l (.inl (wrap .i64 (v + 1))))))))
 (.l (.inr (.inl ())))
noncomputable def wgh (k : Int × (Int × (Y1 × (Y2 × Yo)))) (v : Int) : Option ((Unit) ⊕ (Unit)) := iter (fun v => (wcf k v).ev) v
noncomputable def wns : LD := ⟨{ acts := [], S := { slots := [3, 4, 5, 6, 11, 38], sh := (yj [.box 3 0, .dat yi, .dat yi, .arr 4096, .arr 6592, .dat yi]), obs := [Zaf, (4096, .arr 33 (.pair yi yi)), (6592, .arr 24 y1)] } }, [(4, { acts := [], S := { slots := [3, 4, 5, 6], sh := (yj [.box 3 0, .dat yi, .dat yi, .arr 4096]), obs := [Zaf, (4096, .arr 33 (.pair yi yi))] } })], (yh [2] Zh), Int × (Int × (Y1 × (Y2 × Yo))), Int, (Unit) ⊕ (Unit), fun k v => (((), (k.1, (k.2.1, ((), ((), (v, ())))))), ((k.2.2.1, (k.2.2.2.1, ())), (k.2.2.2.2.1, (k.2.2.2.2.2, ())))), fun t => (t.1.2.1, (t.1.2.2.1, (t.2.1.1, (t.2.1.2.1, (t.2.2.1, t.2.2.2.1))))), fun t => t.1.2.2.2.2.2.1, wcf, fun k r => .s (Unit) (Unit) r (fun _ => .l (.exit 4 (mkSt ({ slots := [3, 4, 5, 6], sh := (yj [.box 3 0, .dat yi, .dat yi, .arr 4096]), obs := [Zaf, (4096, .arr 33 (.pair yi yi))] }) (((), (k.1, (k.2.1, ((), ())))), ((k.2.2.1, (k.2.2.2.1, ())), (k.2.2.2.2.1, ())))))) (fun _ => .l (.ret (mkSt ((ys [2] Zh)) ((false, ()), ()))))⟩
noncomputable def wbe (k : Int × (Int × (Int × Yab))) (v : Int × Y1) : Tr (Yam ⊕ Y1) :=
 .t (decide (v.1 < ((length k.2.2.2.1 : Nat) : Int)))
 (.g (decide (0 ≤ v.1)) <|
 .t ((wrap .i64 (BitVec.toNat ((BitVec.ofInt (IntKind.bits .i64) (Int.fdiv k.2.2.1 (2 ^ (min (toNat v.1) (IntKind.bits .i64))))) &&& (BitVec.ofInt (IntKind.bits .i64) (1 : Int))))) == (1 : Int))
 (.g (decide ((length v.2 + length ([v.1] : Y1)) * 8 ≤ 140737488355328)) <|
 .l (.inl ((wrap .i64 (v.1 + 1)), (v.2 ++ ([v.1] : Y1)))))
 (.l (.inl ((wrap .i64 (v.1 + 1)), v.2))))
 (.l (.inr v.2))
noncomputable def wsg (k : Int × (Int × (Int × Yab))) (v : Int × Y1) : Option Y1 := iter (fun v => (wbe k v).ev) v
noncomputable def wnt : LD := ⟨{ acts := [], S := { slots := [3, 4, 5, 6, 43, 44, 45], sh := (yj [.box 3 0, .dat yi, .dat yi, .arr 4096, .dat yi, .arr 338, .dat yi]), obs := [Zaf, (4096, .arr 33 (.pair yi yi)), (338, .arr 3 yi)] } }, [(8, { acts := [], S := { slots := [3, 4, 5, 6, 43, 44], sh := (yj [.box 3 0, .dat yi, .dat yi, .arr 4096, .dat yi, .arr 338]), obs := [Zaf, (4096, .arr 33 (.pair yi yi)), (338, .arr 3 yi)] } })], (yh [] .nil), Int × (Int × (Int × Yab)), Int × Y1, Y1, fun k v => (((), (k.1, (k.2.1, ((), (k.2.2.1, ((), (v.1, ()))))))), ((k.2.2.2.1, (k.2.2.2.2.1, ())), (k.2.2.2.2.2, (v.2, ())))), fun t => (t.1.2.1, (t.1.2.2.1, (t.1.2.2.2.2.1, (t.2.1.1, (t.2.1.2.1, t.2.2.1))))), fun t => (t.1.2.2.2.2.2.2.1, t.2.2.2.1), wbe, fun k r => .l (.exit 8 (mkSt ({ slots := [3, 4, 5, 6, 43, 44], sh := (yj [.box 3 0, .dat yi, .dat yi, .arr 4096, .dat yi, .arr 338]), obs := [Zaf, (4096, .arr 33 (.pair yi yi)), (338, .arr 3 yi)] }) (((), (k.1, (k.2.1, ((), (k.2.2.1, ((), ())))))), ((k.2.2.2.1, (k.2.2.2.2.1, ())), (k.2.2.2.2.2, (r, ()))))))⟩
noncomputable def wat (k : Int × (Int × (Int × (Int × (Bool × (Int × (Bool × Yab))))))) (v : Bool × Int) : Tr ((Bool × Int) ⊕ (Bool)) :=
 .t (decide (v.2 < ((length k.2.2.2.2.2.2.2.2.2 : Nat) : Int)))
 (.t v.1
 (.l (.inl (true, (wrap .i64 (v.2 + 1)))))
 (.g (inR v.2 (length k.2.2.2.2.2.2.2.2.2)) <|
 .g (decide ((toNat v.2) < length k.2.2.2.2.2.2.2.2.2)) <|
 .t (decide ((getD k.2.2.2.2.2.2.2.2.2 (toNat v.2) ((0 : Int), (0 : Int))).1 ≤ k.2.2.2.1))
 (.g (inR v.2 (length k.2.2.2.2.2.2.2.2.2)) <|
 .g (decide ((toNat v.2) < length k.2.2.2.2.2.2.2.2.2)) <|
 .l (.inl ((decide ((getD k.2.2.2.2.2.2.2.2.2 (toNat v.2) ((0 : Int), (0 : Int))).2 ≤ k.2.2.2.2.2.1)), (wrap .i64 (v.2 + 1)))))
 (.l (.inl (false, (wrap .i64 (v.2 + 1)))))))
 (.l (.inr v.1))
noncomputable def wgi (k : Int × (Int × (Int × (Int × (Bool × (Int × (Bool × Yab))))))) (v : Bool × Int) : Option (Bool) := iter (fun v => (wat k v).ev) v
noncomputable def wii : LD := ⟨{ acts := [], S := { slots := [3, 4, 5, 6, 43, 46, 47, 48, 49, 50, 51], sh := (yj [.box 3 0, .dat yi, .dat yi, .arr 4096, .dat yi, .dat yi, .dat .bool, .dat yi, .dat .bool, .dat .bool, .dat yi]), obs := [Zaf, (4096, .arr 33 (.pair yi yi))] } }, [(10, { acts := [], S := { slots := [3, 4, 5, 6, 43, 47, 49, 50], sh := (yj [.box 3 0, .dat yi, .dat yi, .arr 4096, .dat yi, .dat .bool, .dat .bool, .dat .bool]), obs := [Zaf, (4096, .arr 33 (.pair yi yi))] } })], (yh [] .nil), Int × (Int × (Int × (Int × (Bool × (Int × (Bool × Yab)))))), Bool × (Int), Bool, fun k v => (((), (k.1, (k.2.1, ((), (k.2.2.1, (k.2.2.2.1, (k.2.2.2.2.1, (k.2.2.2.2.2.1, (k.2.2.2.2.2.2.1, (v.1, (v.2, ()))))))))))), ((k.2.2.2.2.2.2.2.1, (k.2.2.2.2.2.2.2.2.1, ())), (k.2.2.2.2.2.2.2.2.2, ()))), fun t => (t.1.2.1, (t.1.2.2.1, (t.1.2.2.2.2.1, (t.1.2.2.2.2.2.1, (t.1.2.2.2.2.2.2.1, (t.1.2.2.2.2.2.2.2.1, (t.1.2.2.2.2.2.2.2.2.1, (t.2.1.1, (t.2.1.2.1, t.2.2.1))))))))), fun t => (t.1.2.2.2.2.2.2.2.2.2.1, t.1.2.2.2.2.2.2.2.2.2.2.1), wat, fun k r => .l (.exit 10 (mkSt ({ slots := [3, 4, 5, 6, 43, 47, 49, 50], sh := (yj [.box 3 0, .dat yi, .dat yi, .arr 4096, .dat yi, .dat .bool, .dat .bool, .dat .bool]), obs := [Zaf, (4096, .arr 33 (.pair yi yi))] }) (((), (k.1, (k.2.1, ((), (k.2.2.1, (k.2.2.2.2.1, (k.2.2.2.2.2.2.1, (r, ())))))))), ((k.2.2.2.2.2.2.2.1, (k.2.2.2.2.2.2.2.2.1, ())), (k.2.2.2.2.2.2.2.2.2, ())))))⟩
noncomputable def wef (k : Int × (Int × Yab)) (v : Int) : Tr ((Int) ⊕ ((Unit) ⊕ (Unit))) :=
 .g (decide ((0 : Int) ≤ ((length k.2.2.1 : Nat) : Int))) <|
 .t (decide (v < (wrap .i64 ((1 : Int) * 2 ^ (min (toNat ((length k.2.2.1 : Nat) : Int)) (IntKind.bits .i64))))))
 (.c Y1 (wsg (k.1, (k.2.1, (v, (k.2.2.1, (k.2.2.2.1, k.2.2.2.2))))) ((0 : Int), ([] : Y1))) fun r110_ =>
 .c (Int × (Bool)) (wow k.2.2.1 k.2.2.2.1 r110_ k.1) fun r111_ =>
 .c (Int × (Bool)) (wow k.2.2.1 k.2.2.2.1 r110_ k.2.1) fun r112_ =>
 .c (Bool) (wgi (k.1, (k.2.1, (v, (r111_.1, (r111_.2, (r112_.1, (r112_.2, (k.2.2.1, (k.2.2.2.1, k.2.2.2.2))))))))) (false, (0 : Int))) fun r134_ =>
 .t (!r111_.2)
 (.l (.inr (.inr ())))
 (.t (!r112_.2)
 (.l (.inr (.inr ())))
 (.t (!r134_)
 (.l (.inr (.inr ())))
 (.l (.inl (wrap .i64 (v + 1)))))))
 (.l (.inr (.inl ())))
noncomputable def wgj (k : Int × (Int × Yab)) (v : Int) : Option ((Unit) ⊕ (Unit)) := iter (fun v => (wef k v).ev) v
noncomputable def wnu : LD := ⟨{ acts := [], S := { slots := [3, 4, 5, 6, 43], sh := (yj [.box 3 0, .dat yi, .dat yi, .arr 4096, .dat yi]), obs := [Zaf, (4096, .arr 33 (.pair yi yi))] } }, [(6, (yh [] .nil))], (yh [2] Zh), Int × (Int × Yab), Int, (Unit) ⊕ (Unit), fun k v => (((), (k.1, (k.2.1, ((), (v, ()))))), ((k.2.2.1, (k.2.2.2.1, ())), (k.2.2.2.2, ()))), fun t => (t.1.2.1, (t.1.2.2.1, (t.2.1.1, (t.2.1.2.1, t.2.2.1)))), fun t => t.1.2.2.2.2.1, wef, fun _ r => .s (Unit) (Unit) r (fun _ => .l (.exit 6 (mkSt ((ys [] .nil)) ((), ())))) (fun _ => .l (.ret (mkSt ((ys [2] Zh)) ((false, ()), ()))))⟩
noncomputable def wajk (a1_ : Y1) : Tr (Bool) :=
 .c (Bool) (wabr a1_) fun r1_ =>
 .t r1_
 (.l true)
 (.c Yae (wuy a1_) fun r2_ =>
 .c (Bool × (List Yf)) (F_zr r2_.2.2.1 r2_.2.2.2 r2_.1 r2_.2.1) fun r3_ =>
 .c ((List Yf) × (Bool)) (wxs r2_.2.2.1 r2_.2.2.2 r2_.1 r2_.2.1) fun r4_ =>
 .t (!(r3_.1 == r4_.2))
 (.l false)
 (.t (((length r3_.2 : Nat) : Int) != ((length r4_.1 : Nat) : Int))
 (.l false)
 (.c ((Unit) ⊕ (Unit)) (wsf (a1_, (r2_.1, (r2_.2.1, (r3_.1, (r4_.1, (r2_.2.2.1, (r2_.2.2.2, r3_.2))))))) (0 : Int)) fun r22_ =>
 .s (Unit) (Unit) r22_
 (fun _ => .c (Bool × Y2) (F_zs r2_.2.2.1 r2_.2.2.2 r2_.1 r2_.2.1) fun r25_ =>
 .c (Y2 × (Bool)) (wxt r2_.2.2.1 r2_.2.2.2 r2_.1 r2_.2.1) fun r26_ =>
 .t (!(r25_.1 == r26_.2))
 (.l false)
 (.t (!(r25_.1 == r3_.1))
 (.l false)
 (.c (Bool) (wxv r25_.2 r26_.1) fun r27_ =>
 .t (!r27_)
 (.l false)
 (.c (Int × Yae) (wxx a1_) fun r28_ =>
 .c (Y1 × (Bool)) (F_zd r28_.2.2.2.1 r28_.2.2.2.2 r28_.1 r28_.2.1 r28_.2.2.1) fun r29_ =>
 .c (Y1 × (Bool)) (wyc r28_.2.2.2.1 r28_.2.2.2.2 r28_.1 r28_.2.1 r28_.2.2.1) fun r30_ =>
 .t (!(r29_.2 == r30_.2))
 (.l false)
 (.c (Bool) (wrw r29_.1 r30_.1) fun r31_ =>
 .t (!r31_)
 (.l false)
 (.c (Y1 × (Y2 × Yam)) (wye a1_) fun r32_ =>
 .c (Int × (Bool)) (wow r32_.1 r32_.2.1 r32_.2.2.2 r32_.2.2.1) fun r33_ =>
 .c (Int × (Bool)) (wyk r32_.1 r32_.2.1 r32_.2.2.2 r32_.2.2.1) fun r34_ =>
 .t (r33_.1 != r34_.1)
 (.l false)
 (.t (!(r33_.2 == r34_.2))
 (.l false)
 (.t r29_.2
 (.c (Bool × (List Yf)) (F_zr r28_.2.2.2.1 r28_.2.2.2.2 r28_.1 r28_.2.1) fun r35_ =>
 .c (Int × (Bool)) (wow r28_.2.2.2.1 r28_.2.2.2.2 r29_.1 r28_.1) fun r36_ =>
 .c (Int × (Bool)) (wow r28_.2.2.2.1 r28_.2.2.2.2 r29_.1 r28_.2.1) fun r37_ =>
 .c ((Bool) ⊕ (Unit)) (wgg (r2_.1, (r2_.2.1, (r3_.1, (r28_.2.2.1, (r35_.1, (r36_.1, (r36_.2, (r37_.1, (r37_.2, (r2_.2.2.1, (r2_.2.2.2, (r3_.2, (r25_.2, r35_.2))))))))))))) (false, (0 : Int))) fun r68_ =>
 .s (Bool) (Unit) r68_
 (fun r69_ => .t (!r35_.1)
 (.l false)
 (.t (!r36_.2)
 (.l false)
 (.t (!r37_.2)
 (.l false)
 (.t (decide (r28_.2.2.1 < r37_.1))
 (.l false)
 (.t (!r69_)
 (.l false)
 (.t (!r3_.1)
 (.l true)
 (.c ((Unit) ⊕ (Unit)) (wgh (r2_.1, (r2_.2.1, (r2_.2.2.1, (r2_.2.2.2, (r3_.2, r25_.2))))) (0 : Int)) fun r86_ =>
 .s (Unit) (Unit) r86_
 (fun _ => .c ((Unit) ⊕ (Unit)) (wgj (r2_.1, (r2_.2.1, (r2_.2.2.1, (r2_.2.2.2, r3_.2)))) (1 : Int)) fun r136_ =>
 .s (Unit) (Unit) r136_
 (fun _ => .l true)
 (fun _ => .l false))
 (fun _ => .l false))))))))
 (fun _ => .l false))
 (.t (!r3_.1)
 (.l true)
 (.c ((Unit) ⊕ (Unit)) (wgh (r2_.1, (r2_.2.1, (r2_.2.2.1, (r2_.2.2.2, (r3_.2, r25_.2))))) (0 : Int)) fun r139_ =>
 .s (Unit) (Unit) r139_
 (fun _ => .c ((Unit) ⊕ (Unit)) (wgj (r2_.1, (r2_.2.1, (r2_.2.2.1, (r2_.2.2.2, r3_.2)))) (1 : Int)) fun r142_ =>
 .s (Unit) (Unit) r142_
 (fun _ => .l true)
 (fun _ => .l false))
 (fun _ => .l false)))))))))))
 (fun _ => .l false))))
noncomputable def wajl (a1_ : Y1) : Option (Bool) := (wajk a1_).ev
noncomputable def wayr : RetK := yr [.tmp 2] Zh
noncomputable def wajm : FD := yd (yj [.dat Zv]) [] [] Bool (fun x => wajl x.1.1) (fun r => ([.dat .bool r], []))
noncomputable def wij : Nat → Nat → List Nat := fun r i => match look [(5, [(3, [68])]), (18, [(4, [135])])] r with
 | some l => (look l i).getD []
 | none => []
noncomputable def wik : Env := envOf [(9, wabs), (10, wacw), (11, D_zr), (12, wahk), (13, D_zs), (14, wahm), (15, wahs), (16, wahy), (17, D_zd), (18, waij), (19, wxu), (20, waiq), (21, D_zv), (22, wajj)]
noncomputable def wil : List (Nat × LD) := [(0, wnq), (2, wnr), (4, wns), (8, wnt), (10, wii), (6, wnu)]
noncomputable def wim : Code := (f3.body).getD .skip
end Go.Proofs.YtnagpmhaddfgmaaGreat
