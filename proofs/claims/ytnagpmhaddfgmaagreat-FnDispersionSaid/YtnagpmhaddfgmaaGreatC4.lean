import Derived.Test.YtnagpmhaddfgmaaGreatC3
import Derived.Test.YtnagpmhaddfgmaaGreatProg
namespace Go.Proofs.YtnagpmhaddfgmaaGreat
open Go.Proofs.Tryz
open List (length getD set)
open Int (toNat)
open IntKind (wrap)
noncomputable def wgl (k : Y1 × Int) (v : Int) : Tr ((Int) ⊕ ((Unit) ⊕ (Unit))) :=
 .t (decide (v < ((length k.1 : Nat) : Int)))
 (.g (inR v (length k.1)) <|
 .t ((getD k.1 (toNat v) 0) == k.2)
 (.l (.inr (.inr ())))
 (.l (.inl (wrap .i64 (v + 1)))))
 (.l (.inr (.inl ())))
noncomputable def wye (k : Y1 × Int) (v : Int) : Option ((Unit) ⊕ (Unit)) := iter (fun v => (wgl k v).ev) v
noncomputable def waca : LD := ⟨(yh [0, 1, 5] (yj [.dat y1, .dat yi, .dat yi])), [(0, (yh [] .nil))], (yh [4] (yj [.dat .bool])), Y1 × (Int), Int, (Unit) ⊕ (Unit), fun k v => ((k.1, (k.2, (v, ()))), ()), fun t => (t.1.1, t.1.2.1), fun t => t.1.2.2.1, wgl, fun _ r => .s (Unit) (Unit) r (fun _ => .l (.exit 0 (wal ((ys [] .nil)) ((), ())))) (fun _ => .l (.ret (wal ((ys [4] (yj [.dat .bool]))) ((true, ()), ()))))⟩
noncomputable def waun (a1_ : Y1) (a2_ : Int) : Tr (Bool) :=
 .c ((Unit) ⊕ (Unit)) (wye (a1_, a2_) (0 : Int)) fun r5_ =>
 .s (Unit) (Unit) r5_
 (fun _ => .l false)
 (fun _ => .l true)
noncomputable def wyf (a1_ : Y1) (a2_ : Int) : Option (Bool) := (waun a1_ a2_).ev
noncomputable def wbxy : RetK := yr [.tmp 4] (yj [.dat .bool])
noncomputable def wauo : FD := yd (yj [.dat y1, .dat yi]) [] [] Bool (fun x => wyf x.1.1 x.1.2.1) (fun r => ([.dat .bool r], []))
noncomputable def wbeu : Env := wab []
noncomputable def wbev : List (Nat × LD) := [(0, waca)]
noncomputable def waup : Code := (f112.body).getD .skip
noncomputable def wnu (k : Y2 × (Y1 × Int)) (v : Int × Int) : Tr ((Int × Int) ⊕ (Int)) :=
 .t (decide (v.2 < ((length k.2.1 : Nat) : Int)))
 (.g (inR v.2 (length k.2.1)) <|
 .g (inR (getD k.2.1 (toNat v.2) 0) (length k.1)) <|
 .g (inR k.2.2 (length (getD k.1 (toNat (getD k.2.1 (toNat v.2) 0)) ([] : Y1)))) <|
 .c (Int) (wxj v.1 (getD (getD k.1 (toNat (getD k.2.1 (toNat v.2) 0)) ([] : Y1)) (toNat k.2.2) (0 : Int))) fun r6_ =>
 .l (.inl (r6_, (wrap .i64 (v.2 + 1)))))
 (.l (.inr v.1))
noncomputable def walf (k : Y2 × (Y1 × Int)) (v : Int × Int) : Option (Int) := iter (fun v => (wnu k v).ev) v
noncomputable def wacb : LD := ⟨(yh [0, 1, 2, 7, 8] (yj [.dat y2, .dat y1, .dat yi, .dat yi, .dat yi])), [(0, (yh [7] (yj [.dat yi])))], (yh [] .nil), Y2 × (Y1 × Int), Int × (Int), Int, fun k v => ((k.1, (k.2.1, (k.2.2, (v.1, (v.2, ()))))), ()), fun t => (t.1.1, (t.1.2.1, t.1.2.2.1)), fun t => (t.1.2.2.2.1, t.1.2.2.2.2.1), wnu, fun _ r => .l (.exit 0 (wal ((ys [7] (yj [.dat yi]))) ((r, ()), ())))⟩
noncomputable def wbew (a1_ : List Y1) (a2_ : Y1) (a3_ : Int) : Tr (Int) :=
 .g (inR 0 (length a2_)) <|
 .g (inR (getD a2_ (toNat 0) 0) (length a1_)) <|
 .g (inR a3_ (length (getD a1_ (toNat (getD a2_ (toNat 0) 0)) ([] : Y1)))) <|
 .c (Int) (walf (a1_, (a2_, a3_)) ((getD (getD a1_ (toNat (getD a2_ (toNat 0) 0)) ([] : Y1)) (toNat a3_) (0 : Int)), (1 : Int))) fun r8_ =>
 .l r8_
noncomputable def walg (a1_ : List Y1) (a2_ : Y1) (a3_ : Int) : Option (Int) := (wbew a1_ a2_ a3_).ev
noncomputable def wbxz : RetK := yr [.tmp 6] (yj [.dat yi])
noncomputable def wbex : FD := yd (yj [.dat y2, .dat y1, .dat yi]) [] [] Int (fun x => walg x.1.1 x.1.2.1 x.1.2.2.1) (fun r => ([.dat yi r], []))
noncomputable def wbey : Env := wab [(194, wajm)]
noncomputable def wbez : List (Nat × LD) := [(0, wacb)]
noncomputable def wauq : Code := (f113.body).getD .skip
noncomputable def wkk (k : Y2 × (Int × Int)) (v : Int × Y1) : Tr ((Int × Y1) ⊕ Y1) :=
 .t (decide (v.1 < ((length k.1 : Nat) : Int)))
 (.g (inR k.2.2 (length k.1)) <|
 .g (inR v.1 (length (getD k.1 (toNat k.2.2) ([] : Y1)))) <|
 .g (inR 0 (length v.2)) <|
 .g (decide ((toNat 0) < length v.2)) <|
 .g (inR (getD v.2 (toNat 0) 0) (length k.1)) <|
 .g (inR 1 (length v.2)) <|
 .g (decide ((toNat 1) < length v.2)) <|
 .g (inR (getD v.2 (toNat 1) 0) (length (getD k.1 (toNat (getD v.2 (toNat 0) 0)) ([] : Y1)))) <|
 .t (decide ((getD (getD k.1 (toNat (getD v.2 (toNat 0) 0)) ([] : Y1)) (toNat (getD v.2 (toNat 1) 0)) (0 : Int)) < (getD (getD k.1 (toNat k.2.2) ([] : Y1)) (toNat v.1) (0 : Int))))
 (.l (.inl ((wrap .i64 (v.1 + 1)), ([k.2.2, v.1] : Y1))))
 (.l (.inl ((wrap .i64 (v.1 + 1)), v.2))))
 (.l (.inr v.2))
noncomputable def walh (k : Y2 × (Int × Int)) (v : Int × Y1) : Option Y1 := iter (fun v => (wkk k v).ev) v
noncomputable def wacc : LD := ⟨{ acts := [.rep 52 16], S := { slots := [0, 1, 6, 7, 8], sh := (yj [.dat y2, .dat yi, .arr 16, .dat yi, .dat yi]), obs := [(16, .arr 3 yi)] } }, [(2, { acts := [], S := { slots := [0, 1, 6, 7], sh := (yj [.dat y2, .dat yi, .arr 16, .dat yi]), obs := [(16, .arr 3 yi)] } })], (yh [] .nil), Y2 × (Int × Int), Int × Y1, Y1, fun k v => ((k.1, (k.2.1, ((), (k.2.2, (v.1, ()))))), (v.2, ())), fun t => (t.1.1, (t.1.2.1, t.1.2.2.2.1)), fun t => (t.1.2.2.2.2.1, t.2.1), wkk, fun k r => .l (.exit 2 (wal ({ slots := [0, 1, 6, 7], sh := (yj [.dat y2, .dat yi, .arr 16, .dat yi]), obs := [(16, .arr 3 yi)] }) ((k.1, (k.2.1, ((), (k.2.2, ())))), (r, ()))))⟩
noncomputable def wnv (k : Y2 × Int) (v : Int × Y1) : Tr ((Int × Y1) ⊕ Y1) :=
 .t (decide (v.1 < ((length k.1 : Nat) : Int)))
 (.c Y1 (walh (k.1, (k.2, v.1)) ((wrap .i64 (v.1 + 1)), v.2)) fun r15_ =>
 .l (.inl ((wrap .i64 (v.1 + 1)), r15_)))
 (.l (.inr v.2))
noncomputable def wyg (k : Y2 × Int) (v : Int × Y1) : Option Y1 := iter (fun v => (wnv k v).ev) v
noncomputable def wacd : LD := ⟨{ acts := [], S := { slots := [0, 1, 6, 7], sh := (yj [.dat y2, .dat yi, .arr 16, .dat yi]), obs := [(16, .arr 3 yi)] } }, [(0, { acts := [], S := { slots := [0, 1, 6], sh := (yj [.dat y2, .dat yi, .arr 16]), obs := [(16, .arr 3 yi)] } })], (yh [] .nil), Y2 × (Int), Int × Y1, Y1, fun k v => ((k.1, (k.2, ((), (v.1, ())))), (v.2, ())), fun t => (t.1.1, t.1.2.1), fun t => (t.1.2.2.2.1, t.2.1), wnv, fun k r => .l (.exit 0 (wal ({ slots := [0, 1, 6], sh := (yj [.dat y2, .dat yi, .arr 16]), obs := [(16, .arr 3 yi)] }) ((k.1, (k.2, ((), ()))), (r, ()))))⟩
noncomputable def wgm (k : Y2 × (Int × Y1)) (v : Int × Int) : Tr ((Int × Int) ⊕ (Int)) :=
 .t (decide (v.2 < ((length k.1 : Nat) : Int)))
 (.c (Bool) (wyf k.2.2 v.2) fun r28_ =>
 .t (!r28_)
 (.t (decide (v.1 < 0))
 (.l (.inl (v.2, (wrap .i64 (v.2 + 1)))))
 (.c (Int) (walg k.1 k.2.2 v.2) fun r29_ =>
 .c (Int) (walg k.1 k.2.2 v.1) fun r30_ =>
 .t (decide (r30_ < r29_))
 (.l (.inl (v.2, (wrap .i64 (v.2 + 1)))))
 (.l (.inl (v.1, (wrap .i64 (v.2 + 1)))))))
 (.l (.inl (v.1, (wrap .i64 (v.2 + 1))))))
 (.l (.inr v.1))
noncomputable def wali (k : Y2 × (Int × Y1)) (v : Int × Int) : Option (Int) := iter (fun v => (wgm k v).ev) v
noncomputable def wace : LD := ⟨{ acts := [], S := { slots := [0, 1, 6, 9, 10], sh := (yj [.dat y2, .dat yi, .arr 16, .dat yi, .dat yi]), obs := [(16, .arr 3 yi)] } }, [(6, { acts := [], S := { slots := [0, 1, 6, 9], sh := (yj [.dat y2, .dat yi, .arr 16, .dat yi]), obs := [(16, .arr 3 yi)] } })], (yh [] .nil), Y2 × (Int × Y1), Int × (Int), Int, fun k v => ((k.1, (k.2.1, ((), (v.1, (v.2, ()))))), (k.2.2, ())), fun t => (t.1.1, (t.1.2.1, t.2.1)), fun t => (t.1.2.2.2.1, t.1.2.2.2.2.1), wgm, fun k r => .l (.exit 6 (wal ({ slots := [0, 1, 6, 9], sh := (yj [.dat y2, .dat yi, .arr 16, .dat yi]), obs := [(16, .arr 3 yi)] }) ((k.1, (k.2.1, ((), (r, ())))), (k.2.2, ()))))⟩
noncomputable def wnw (k : Y2 × Int) (v : Y1) : Tr (Y1 ⊕ Y1) :=
 .t (decide (((length v : Nat) : Int) < k.2))
 (.c (Int) (wali (k.1, (k.2, v)) ((-1 : Int), (0 : Int))) fun r35_ =>
 .g (decide ((length v + length ([r35_] : Y1)) * 8 ≤ 140737488355328)) <|
 .l (.inl (v ++ ([r35_] : Y1))))
 (.l (.inr v))
noncomputable def walj (k : Y2 × Int) (v : Y1) : Option Y1 := iter (fun v => (wnw k v).ev) v
noncomputable def wacf : LD := ⟨{ acts := [], S := { slots := [0, 1, 6], sh := (yj [.dat y2, .dat yi, .arr 16]), obs := [(16, .arr 3 yi)] } }, [(4, { acts := [], S := { slots := [6], sh := (yj [.arr 16]), obs := [(16, .arr 3 yi)] } })], (yh [] .nil), Y2 × (Int), Y1, Y1, fun k v => ((k.1, (k.2, ((), ()))), (v, ())), fun t => (t.1.1, t.1.2.1), fun t => t.2.1, wnw, fun _ r => .l (.exit 4 (wal ({ slots := [6], sh := (yj [.arr 16]), obs := [(16, .arr 3 yi)] }) (((), ()), (r, ()))))⟩
noncomputable def wbfa (a1_ : List Y1) (a2_ : Int) : Tr (Bool × Y1) :=
 .c (Bool) (waku a1_ a2_) fun r1_ =>
 .t (!r1_)
 (.l (false, ([] : Y1)))
 (.c Y1 (wyg (a1_, a2_) ((0 : Int), ([(0 : Int), (1 : Int)] : Y1))) fun r19_ =>
 .c Y1 (walj (a1_, a2_) r19_) fun r37_ =>
 .l (true, r37_))
noncomputable def waur (a1_ : List Y1) (a2_ : Int) : Option (Bool × Y1) := (wbfa a1_ a2_).ev
noncomputable def wbya : RetK := { acts := [.ren 15 0, .ren 16 0], res := [.tmp 4, .tmp 5], sh := (yj [.arr 0, .dat .bool]), obs := [(0, .arr 3 yi)], pins := [] }
noncomputable def wbfb : FD := yd (yj [.dat y2, .dat yi]) [] [] (Bool × Y1) (fun x => waur x.1.1 x.1.2.1) (fun r => ([.arr 0, .dat .bool r.1], [(0, .arr 3 yi r.2)]))
noncomputable def wafx : Env := wab [(108, watu), (112, wauo), (113, wbex)]
noncomputable def wafy : List (Nat × LD) := [(2, wacc), (0, wacd), (6, wace), (4, wacf)]
noncomputable def wox : Code := (f27.body).getD .skip
noncomputable def wva (k : Y2 × (Int × (Int × (Int × (Int × (Int × (Int × Int))))))) (v : Int) : Tr ((Int) ⊕ ((Unit) ⊕ (Unit))) :=
 .t (decide (v < k.2.2.2.2.2.2.2))
 (.g (inR k.2.1 (length k.1)) <|
 .g (inR k.2.2.1 (length (getD k.1 (toNat k.2.1) ([] : Y1)))) <|
 .g (inR k.2.1 (length k.1)) <|
 .g (inR v (length (getD k.1 (toNat k.2.1) ([] : Y1)))) <|
 .g (inR v (length k.1)) <|
 .g (inR k.2.2.1 (length (getD k.1 (toNat v) ([] : Y1)))) <|
 .t (decide ((wrap .i64 ((getD (getD k.1 (toNat k.2.1) ([] : Y1)) (toNat v) (0 : Int)) + (getD (getD k.1 (toNat v) ([] : Y1)) (toNat k.2.2.1) (0 : Int)))) < (getD (getD k.1 (toNat k.2.1) ([] : Y1)) (toNat k.2.2.1) (0 : Int))))
 (.l (.inr (.inr ())))
 (.l (.inl (wrap .i64 (v + 1)))))
 (.l (.inr (.inl ())))
noncomputable def wazh (k : Y2 × (Int × (Int × (Int × (Int × (Int × (Int × Int))))))) (v : Int) : Option ((Unit) ⊕ (Unit)) := iter (fun v => (wva k v).ev) v
noncomputable def walm : LD := ⟨(yh [0, 4, 5, 11, 12, 16, 17, 21, 22] (yj [.dat y2, .dat yi, .dat yi, .dat yi, .dat yi, .dat yi, .dat yi, .dat yi, .dat yi])), [(4, (yh [0, 4, 11, 12, 16, 17] (yj [.dat y2, .dat yi, .dat yi, .dat yi, .dat yi, .dat yi])))], (yh [2, 3] (yj [.dat .bool, .dat .bool])), Y2 × (Int × (Int × (Int × (Int × (Int × (Int × Int)))))), Int, (Unit) ⊕ (Unit), fun k v => ((k.1, (k.2.1, (k.2.2.1, (k.2.2.2.1, (k.2.2.2.2.1, (k.2.2.2.2.2.1, (k.2.2.2.2.2.2.1, (k.2.2.2.2.2.2.2, (v, ()))))))))), ()), fun t => (t.1.1, (t.1.2.1, (t.1.2.2.1, (t.1.2.2.2.1, (t.1.2.2.2.2.1, (t.1.2.2.2.2.2.1, (t.1.2.2.2.2.2.2.1, t.1.2.2.2.2.2.2.2.1))))))), fun t => t.1.2.2.2.2.2.2.2.2.1, wva, fun k r => .s (Unit) (Unit) r (fun _ => .l (.exit 4 (wal ((ys [0, 4, 11, 12, 16, 17] (yj [.dat y2, .dat yi, .dat yi, .dat yi, .dat yi, .dat yi]))) ((k.1, (k.2.1, (k.2.2.2.1, (k.2.2.2.2.1, (k.2.2.2.2.2.1, (k.2.2.2.2.2.2.1, ())))))), ())))) (fun _ => .l (.ret (wal ((ys [2, 3] (yj [.dat .bool, .dat .bool]))) ((false, (true, ())), ()))))⟩
noncomputable def wvb (k : Y2 × (Int × (Int × (Int × Int)))) (v : Int) : Tr ((Int) ⊕ ((Unit) ⊕ (Unit))) :=
 .t (decide (v < k.2.2.2.2))
 (.c ((Unit) ⊕ (Unit)) (wazh (k.1, (k.2.1, (v, (k.2.2.1, (k.2.2.2.1, (k.2.2.2.2, (v, ((length k.1 : Nat) : Int)))))))) (0 : Int)) fun r28_ =>
 .s (Unit) (Unit) r28_
 (fun _ => .l (.inl (wrap .i64 (v + 1))))
 (fun _ => .l (.inr (.inr ()))))
 (.l (.inr (.inl ())))
noncomputable def wazi (k : Y2 × (Int × (Int × (Int × Int)))) (v : Int) : Option ((Unit) ⊕ (Unit)) := iter (fun v => (wvb k v).ev) v
noncomputable def waln : LD := ⟨(yh [0, 4, 11, 12, 16, 17] (yj [.dat y2, .dat yi, .dat yi, .dat yi, .dat yi, .dat yi])), [(2, (yh [0, 11, 12] (yj [.dat y2, .dat yi, .dat yi])))], (yh [2, 3] (yj [.dat .bool, .dat .bool])), Y2 × (Int × (Int × (Int × Int))), Int, (Unit) ⊕ (Unit), fun k v => ((k.1, (k.2.1, (k.2.2.1, (k.2.2.2.1, (k.2.2.2.2, (v, ())))))), ()), fun t => (t.1.1, (t.1.2.1, (t.1.2.2.1, (t.1.2.2.2.1, t.1.2.2.2.2.1)))), fun t => t.1.2.2.2.2.2.1, wvb, fun k r => .s (Unit) (Unit) r (fun _ => .l (.exit 2 (wal ((ys [0, 11, 12] (yj [.dat y2, .dat yi, .dat yi]))) ((k.1, (k.2.2.1, (k.2.2.2.1, ()))), ())))) (fun _ => .l (.ret (wal ((ys [2, 3] (yj [.dat .bool, .dat .bool]))) ((false, (true, ())), ()))))⟩
noncomputable def wvc (k : Y2 × Int) (v : Int) : Tr ((Int) ⊕ ((Unit) ⊕ (Unit))) :=
 .t (decide (v < k.2))
 (.c ((Unit) ⊕ (Unit)) (wazi (k.1, (v, (k.2, (v, ((length k.1 : Nat) : Int))))) (0 : Int)) fun r36_ =>
 .s (Unit) (Unit) r36_
 (fun _ => .l (.inl (wrap .i64 (v + 1))))
 (fun _ => .l (.inr (.inr ()))))
 (.l (.inr (.inl ())))
noncomputable def wazj (k : Y2 × Int) (v : Int) : Option ((Unit) ⊕ (Unit)) := iter (fun v => (wvc k v).ev) v
noncomputable def walo : LD := ⟨(yh [0, 11, 12] (yj [.dat y2, .dat yi, .dat yi])), [(0, (yh [] .nil))], (yh [2, 3] (yj [.dat .bool, .dat .bool])), Y2 × (Int), Int, (Unit) ⊕ (Unit), fun k v => ((k.1, (k.2, (v, ()))), ()), fun t => (t.1.1, t.1.2.1), fun t => t.1.2.2.1, wvc, fun _ r => .s (Unit) (Unit) r (fun _ => .l (.exit 0 (wal ((ys [] .nil)) ((), ())))) (fun _ => .l (.ret (wal ((ys [2, 3] (yj [.dat .bool, .dat .bool]))) ((false, (true, ())), ()))))⟩
noncomputable def T_zk (a1_ : List Y1) : Tr (Bool × (Bool)) :=
 .c (Bool) (F_zj a1_) fun r1_ =>
 .t (!r1_)
 (.l (false, false))
 (.c ((Unit) ⊕ (Unit)) (wazj (a1_, ((length a1_ : Nat) : Int)) (0 : Int)) fun r41_ =>
 .s (Unit) (Unit) r41_
 (fun _ => .l (true, true))
 (fun _ => .l (false, true)))
noncomputable def F_zk (a1_ : List Y1) : Option (Bool × (Bool)) := (T_zk a1_).ev
noncomputable def K_zk : RetK := yr [.tmp 2, .tmp 3] (yj [.dat .bool, .dat .bool])
noncomputable def D_zk : FD := yd (yj [.dat y2]) [] [] (Bool × (Bool)) (fun x => F_zk x.1.1) (fun r => ([.dat .bool r.1, .dat .bool r.2], []))
noncomputable def E_zk : Env := wab [(30, D_zj)]
noncomputable def O_zk : List (Nat × LD) := [(4, walm), (2, waln), (0, walo)]
noncomputable def C_zk : Code := (f28.body).getD .skip
noncomputable def wnx (k : Y2 × (Int × Int)) (v : Int) : Tr ((Int) ⊕ ((Unit) ⊕ (Unit))) :=
 .t (decide (v < ((length k.1 : Nat) : Int)))
 (.g (inR k.2.1 (length k.1)) <|
 .g (inR k.2.2 (length (getD k.1 (toNat k.2.1) ([] : Y1)))) <|
 .g (inR k.2.1 (length k.1)) <|
 .g (inR v (length (getD k.1 (toNat k.2.1) ([] : Y1)))) <|
 .g (inR v (length k.1)) <|
 .g (inR k.2.2 (length (getD k.1 (toNat v) ([] : Y1)))) <|
 .t (decide ((wrap .i64 ((getD (getD k.1 (toNat k.2.1) ([] : Y1)) (toNat v) (0 : Int)) + (getD (getD k.1 (toNat v) ([] : Y1)) (toNat k.2.2) (0 : Int)))) < (getD (getD k.1 (toNat k.2.1) ([] : Y1)) (toNat k.2.2) (0 : Int))))
 (.l (.inr (.inr ())))
 (.l (.inl (wrap .i64 (v + 1)))))
 (.l (.inr (.inl ())))
noncomputable def walp (k : Y2 × (Int × Int)) (v : Int) : Option ((Unit) ⊕ (Unit)) := iter (fun v => (wnx k v).ev) v
noncomputable def wacg : LD := ⟨(yh [0, 3, 4, 5] (yj [.dat y2, .dat yi, .dat yi, .dat yi])), [(4, (yh [0, 3, 4] (yj [.dat y2, .dat yi, .dat yi])))], (yh [2] (yj [.dat .bool])), Y2 × (Int × Int), Int, (Unit) ⊕ (Unit), fun k v => ((k.1, (k.2.1, (k.2.2, (v, ())))), ()), fun t => (t.1.1, (t.1.2.1, t.1.2.2.1)), fun t => t.1.2.2.2.1, wnx, fun k r => .s (Unit) (Unit) r (fun _ => .l (.exit 4 (wal ((ys [0, 3, 4] (yj [.dat y2, .dat yi, .dat yi]))) ((k.1, (k.2.1, (k.2.2, ()))), ())))) (fun _ => .l (.ret (wal ((ys [2] (yj [.dat .bool]))) ((false, ()), ()))))⟩
noncomputable def wny (k : Y2 × Int) (v : Int) : Tr ((Int) ⊕ ((Unit) ⊕ (Unit))) :=
 .t (decide (v < ((length k.1 : Nat) : Int)))
 (.c ((Unit) ⊕ (Unit)) (walp (k.1, (k.2, v)) (0 : Int)) fun r14_ =>
 .s (Unit) (Unit) r14_
 (fun _ => .l (.inl (wrap .i64 (v + 1))))
 (fun _ => .l (.inr (.inr ()))))
 (.l (.inr (.inl ())))
noncomputable def walq (k : Y2 × Int) (v : Int) : Option ((Unit) ⊕ (Unit)) := iter (fun v => (wny k v).ev) v
noncomputable def wach : LD := ⟨(yh [0, 3, 4] (yj [.dat y2, .dat yi, .dat yi])), [(2, (yh [0, 3] (yj [.dat y2, .dat yi])))], (yh [2] (yj [.dat .bool])), Y2 × (Int), Int, (Unit) ⊕ (Unit), fun k v => ((k.1, (k.2, (v, ()))), ()), fun t => (t.1.1, t.1.2.1), fun t => t.1.2.2.1, wny, fun k r => .s (Unit) (Unit) r (fun _ => .l (.exit 2 (wal ((ys [0, 3] (yj [.dat y2, .dat yi]))) ((k.1, (k.2, ())), ())))) (fun _ => .l (.ret (wal ((ys [2] (yj [.dat .bool]))) ((false, ()), ()))))⟩
noncomputable def wnz (k : List Y1) (v : Int) : Tr ((Int) ⊕ ((Unit) ⊕ (Unit))) :=
 .t (decide (v < ((length k : Nat) : Int)))
 (.c ((Unit) ⊕ (Unit)) (walq (k, v) (0 : Int)) fun r20_ =>
 .s (Unit) (Unit) r20_
 (fun _ => .l (.inl (wrap .i64 (v + 1))))
 (fun _ => .l (.inr (.inr ()))))
 (.l (.inr (.inl ())))
noncomputable def walr (k : List Y1) (v : Int) : Option ((Unit) ⊕ (Unit)) := iter (fun v => (wnz k v).ev) v
noncomputable def waci : LD := ⟨(yh [0, 3] (yj [.dat y2, .dat yi])), [(0, (yh [] .nil))], (yh [2] (yj [.dat .bool])), List Y1, Int, (Unit) ⊕ (Unit), fun k v => ((k, (v, ())), ()), fun t => t.1.1, fun t => t.1.2.1, wnz, fun _ r => .s (Unit) (Unit) r (fun _ => .l (.exit 0 (wal ((ys [] .nil)) ((), ())))) (fun _ => .l (.ret (wal ((ys [2] (yj [.dat .bool]))) ((false, ()), ()))))⟩
noncomputable def wbfc (a1_ : List Y1) : Tr (Bool) :=
 .c ((Unit) ⊕ (Unit)) (walr a1_ (0 : Int)) fun r24_ =>
 .s (Unit) (Unit) r24_
 (fun _ => .l true)
 (fun _ => .l false)
noncomputable def waus (a1_ : List Y1) : Option (Bool) := (wbfc a1_).ev
noncomputable def wbyd : RetK := yr [.tmp 2] (yj [.dat .bool])
noncomputable def wbfd : FD := yd (yj [.dat y2]) [] [] Bool (fun x => waus x.1.1) (fun r => ([.dat .bool r], []))
noncomputable def wals : Env := wab []
noncomputable def walt : List (Nat × LD) := [(4, wacg), (2, wach), (0, waci)]
noncomputable def wvd : Code := (f115.body).getD .skip
noncomputable def wbfe (a1_ : List Y1) : Tr (Bool × (Bool)) :=
 .c (Bool) (wux a1_) fun r1_ =>
 .t (!r1_)
 (.l (false, false))
 (.c (Bool) (waus a1_) fun r2_ =>
 .l (r2_, true))
noncomputable def waut (a1_ : List Y1) : Option (Bool × (Bool)) := (wbfe a1_).ev
noncomputable def wbye : RetK := yr [.tmp 2, .tmp 3] (yj [.dat .bool, .dat .bool])
noncomputable def wbff : FD := yd (yj [.dat y2]) [] [] (Bool × (Bool)) (fun x => waut x.1.1) (fun r => ([.dat .bool r.1, .dat .bool r.2], []))
noncomputable def wpp (k : Y1 × (Int × (Y1 × Int))) (v : Int) : Tr ((Int) ⊕ ((Unit) ⊕ (Unit))) :=
 .t (decide (v < k.2.2.2))
 (.g (inR v (length k.2.2.1)) <|
 .c (Bool) (F_zt (getD k.2.2.1 (toNat v) 0) (0 : Int) (wrap .i64 (k.2.1 - 1))) fun r6_ =>
 .t (!r6_)
 (.l (.inr (.inr ())))
 (.t (decide (0 < v))
 (.g (inR (wrap .i64 (v - 1)) (length k.1)) <|
 .t (decide ((getD k.2.2.1 (toNat v) 0) ≤ (getD k.1 (toNat (wrap .i64 (v - 1))) (0 : Int))))
 (.l (.inr (.inr ())))
 (.l (.inl (wrap .i64 (v + 1)))))
 (.l (.inl (wrap .i64 (v + 1))))))
 (.l (.inr (.inl ())))
noncomputable def wazl (k : Y1 × (Int × (Y1 × Int))) (v : Int) : Option ((Unit) ⊕ (Unit)) := iter (fun v => (wpp k v).ev) v
noncomputable def walu : LD := ⟨(yh [0, 1, 7, 8, 9] (yj [.dat y1, .dat yi, .dat y1, .dat yi, .dat yi])), [(0, (yh [] .nil))], (yh [4] (yj [.dat .bool])), Y1 × (Int × (Y1 × Int)), Int, (Unit) ⊕ (Unit), fun k v => ((k.1, (k.2.1, (k.2.2.1, (k.2.2.2, (v, ()))))), ()), fun t => (t.1.1, (t.1.2.1, (t.1.2.2.1, t.1.2.2.2.1))), fun t => t.1.2.2.2.2.1, wpp, fun _ r => .s (Unit) (Unit) r (fun _ => .l (.exit 0 (wal ((ys [] .nil)) ((), ())))) (fun _ => .l (.ret (wal ((ys [4] (yj [.dat .bool]))) ((false, ()), ()))))⟩
noncomputable def T_zz (a1_ : Y1) (a2_ : Int) : Tr (Bool) :=
 .c ((Unit) ⊕ (Unit)) (wazl (a1_, (a2_, (a1_, ((length a1_ : Nat) : Int)))) (0 : Int)) fun r8_ =>
 .s (Unit) (Unit) r8_
 (fun _ => .l true)
 (fun _ => .l false)
noncomputable def F_zz (a1_ : Y1) (a2_ : Int) : Option (Bool) := (T_zz a1_ a2_).ev
noncomputable def K_zz : RetK := yr [.tmp 4] (yj [.dat .bool])
noncomputable def D_zz : FD := yd (yj [.dat y1, .dat yi]) [] [] Bool (fun x => F_zz x.1.1 x.1.2.1) (fun r => ([.dat .bool r], []))
noncomputable def E_zz : Env := wab [(104, D_zt)]
noncomputable def O_zz : List (Nat × LD) := [(0, walu)]
noncomputable def C_zz : Code := (f117.body).getD .skip
noncomputable def T_zg (a1_ : List Y1) (a2_ : Y1) : Tr (Int × (Bool)) :=
 .c (Bool) (F_zj a1_) fun r1_ =>
 .t (!r1_)
 (.l ((0 : Int), false))
 (.c (Bool) (F_zz a2_ ((length a1_ : Nat) : Int)) fun r2_ =>
 .t (!r2_)
 (.l ((0 : Int), false))
 (.t (decide (((length a2_ : Nat) : Int) < (2 : Int)))
 (.l ((0 : Int), false))
 (.c (Int) (F_zv a1_ a2_) fun r3_ =>
 .l (r3_, true))))
noncomputable def F_zg (a1_ : List Y1) (a2_ : Y1) : Option (Int × (Bool)) := (T_zg a1_ a2_).ev
noncomputable def K_zg : RetK := yr [.tmp 4, .tmp 5] (yj [.dat yi, .dat .bool])
noncomputable def D_zg : FD := yd (yj [.dat y2, .dat y1]) [] [] (Int × (Bool)) (fun x => F_zg x.1.1 x.1.2.1) (fun r => ([.dat yi r.1, .dat .bool r.2], []))
noncomputable def woa (k : Y1 × Int) (v : Int) : Tr ((Int) ⊕ ((Unit) ⊕ (Unit))) :=
 .t (decide (v < ((length k.1 : Nat) : Int)))
 (.g (inR v (length k.1)) <|
 .t ((getD k.1 (toNat v) 0) == k.2)
 (.l (.inr (.inr ())))
 (.l (.inl (wrap .i64 (v + 1)))))
 (.l (.inr (.inl ())))
noncomputable def walv (k : Y1 × Int) (v : Int) : Option ((Unit) ⊕ (Unit)) := iter (fun v => (woa k v).ev) v
noncomputable def wacj : LD := ⟨(yh [0, 1, 5] (yj [.dat y1, .dat yi, .dat yi])), [(0, (yh [] .nil))], (yh [4] (yj [.dat .bool])), Y1 × (Int), Int, (Unit) ⊕ (Unit), fun k v => ((k.1, (k.2, (v, ()))), ()), fun t => (t.1.1, t.1.2.1), fun t => t.1.2.2.1, woa, fun _ r => .s (Unit) (Unit) r (fun _ => .l (.exit 0 (wal ((ys [] .nil)) ((), ())))) (fun _ => .l (.ret (wal ((ys [4] (yj [.dat .bool]))) ((true, ()), ()))))⟩
noncomputable def wbfg (a1_ : Y1) (a2_ : Int) : Tr (Bool) :=
 .c ((Unit) ⊕ (Unit)) (walv (a1_, a2_) (0 : Int)) fun r5_ =>
 .s (Unit) (Unit) r5_
 (fun _ => .l false)
 (fun _ => .l true)
noncomputable def wauu (a1_ : Y1) (a2_ : Int) : Option (Bool) := (wbfg a1_ a2_).ev
noncomputable def wbyk : RetK := yr [.tmp 4] (yj [.dat .bool])
noncomputable def wbfh : FD := yd (yj [.dat y1, .dat yi]) [] [] Bool (fun x => wauu x.1.1 x.1.2.1) (fun r => ([.dat .bool r], []))
noncomputable def wbfi : Env := wab []
noncomputable def wbfj : List (Nat × LD) := [(0, wacj)]
noncomputable def wauv : Code := (f118.body).getD .skip
noncomputable def whx (k : Y1) (v : Int × Y1) : Tr ((Int × Y1) ⊕ Y1) :=
 .t (decide (v.1 ≤ 1000))
 (.c (Bool) (wauu k v.1) fun r4_ =>
 .t r4_
 (.g (decide ((length v.2 + length ([v.1] : Y1)) * 8 ≤ 140737488355328)) <|
 .l (.inl ((wrap .i64 (v.1 + 1)), (v.2 ++ ([v.1] : Y1)))))
 (.l (.inl ((wrap .i64 (v.1 + 1)), v.2))))
 (.l (.inr v.2))
noncomputable def walw (k : Y1) (v : Int × Y1) : Option Y1 := iter (fun v => (whx k v).ev) v
noncomputable def wack : LD := ⟨{ acts := [], S := { slots := [0, 3, 4], sh := (yj [.dat y1, .arr 5, .dat yi]), obs := [(5, .arr 3 yi)] } }, [(0, { acts := [], S := { slots := [3], sh := (yj [.arr 5]), obs := [(5, .arr 3 yi)] } })], (yh [] .nil), Y1, Int × Y1, Y1, fun k v => ((k, ((), (v.1, ()))), (v.2, ())), fun t => t.1.1, fun t => (t.1.2.2.1, t.2.1), whx, fun _ r => .l (.exit 0 (wal ({ slots := [3], sh := (yj [.arr 5]), obs := [(5, .arr 3 yi)] }) (((), ()), (r, ()))))⟩
noncomputable def wbfk (a1_ : Y1) : Tr Y1 :=
 .c Y1 (walw a1_ ((-1 : Int), ([] : Y1))) fun r6_ =>
 .l r6_
noncomputable def wauw (a1_ : Y1) : Option Y1 := (wbfk a1_).ev
noncomputable def wbyl : RetK := { acts := [.ren 5 0], res := [.tmp 2], sh := (yj [.arr 0]), obs := [(0, .arr 3 yi)], pins := [] }
noncomputable def wbfl : FD := yd (yj [.dat y1]) [] [] Y1 (fun x => wauw x.1.1) (fun r => ([.arr 0], [(0, .arr 3 yi r)]))
noncomputable def wbfm : Env := wab [(118, wbfh)]
noncomputable def wbfn : List (Nat × LD) := [(0, wack)]
noncomputable def waux : Code := (f32.body).getD .skip
noncomputable def wbfo (a1_ : Y1) : Tr (Y2 × Y1) :=
 .c (Y2 × (Y1 × (Int × Int))) (wafl (7 : Int) a1_ (0 : Int) (0 : Int)) fun r1_ =>
 .c (Int × (Y1 × (Int × Int))) (wlg (128 : Int) r1_.2.1 r1_.2.2.1 r1_.2.2.2) fun r2_ =>
 .c Y1 (wya ((length r1_.1 : Nat) : Int) r2_.1) fun r3_ =>
 .c (Bool × (Y1 × (Int × Int))) (wafk (20 : Int) r2_.2.1 r2_.2.2.1 r2_.2.2.2) fun r4_ =>
 .t r4_.1
 (.c (Int × (Y1 × (Int × Int))) (wun ([(-1 : Int), (0 : Int), (7 : Int)] : Y1) r4_.2.1 r4_.2.2.1 r4_.2.2.2) fun r5_ =>
 .g (decide ((length r3_ + length ([r5_.1] : Y1)) * 8 ≤ 140737488355328)) <|
 .l (r1_.1, (r3_ ++ ([r5_.1] : Y1))))
 (.l (r1_.1, r3_))
noncomputable def wyh (a1_ : Y1) : Option (Y2 × Y1) := (wbfo a1_).ev
noncomputable def wbym : RetK := { acts := [.ren 704 0, .ren 1024 1], res := [.tmp 2, .tmp 3], sh := (yj [.arr 0, .arr 1]), obs := [(0, .rows 24 3 yi), (1, .arr 3 yi)], pins := [] }
noncomputable def wbfp : FD := yd (yj [.dat (.slice (.int .u8))]) [] [] (Y2 × Y1) (fun x => wyh x.1.1) (fun r => ([.arr 0, .arr 1], [(0, .rows 24 3 yi r.1 none), (1, .arr 3 yi r.2)]))
noncomputable def wbyn : Nat → Nat → List Nat := fun r i => match look [(5, [(3, [21])])] r with
 | some l => (look l i).getD []
 | none => []
noncomputable def wkl (k : Y1 × (Int × Int)) (v : Int) : Tr ((Int) ⊕ ((Unit) ⊕ (Unit))) :=
 .t (decide (v < ((length k.1 : Nat) : Int)))
 (.g (inR v (length k.1)) <|
 .c (Bool) (wuw (getD k.1 (toNat v) 0) k.2.1 k.2.2) fun r5_ =>
 .t (!r5_)
 (.l (.inr (.inr ())))
 (.t (decide (0 < v))
 (.g (inR (wrap .i64 (v - 1)) (length k.1)) <|
 .g (inR v (length k.1)) <|
 .t (decide ((getD k.1 (toNat v) 0) ≤ (getD k.1 (toNat (wrap .i64 (v - 1))) (0 : Int))))
 (.l (.inr (.inr ())))
 (.l (.inl (wrap .i64 (v + 1)))))
 (.l (.inl (wrap .i64 (v + 1))))))
 (.l (.inr (.inl ())))
noncomputable def walx (k : Y1 × (Int × Int)) (v : Int) : Option ((Unit) ⊕ (Unit)) := iter (fun v => (wkl k v).ev) v
noncomputable def wacl : LD := ⟨(yh [0, 1, 2, 7] (yj [.dat y1, .dat yi, .dat yi, .dat yi])), [(0, (yh [] .nil))], (yh [6] (yj [.dat .bool])), Y1 × (Int × Int), Int, (Unit) ⊕ (Unit), fun k v => ((k.1, (k.2.1, (k.2.2, (v, ())))), ()), fun t => (t.1.1, (t.1.2.1, t.1.2.2.1)), fun t => t.1.2.2.2.1, wkl, fun _ r => .s (Unit) (Unit) r (fun _ => .l (.exit 0 (wal ((ys [] .nil)) ((), ())))) (fun _ => .l (.ret (wal ((ys [6] (yj [.dat .bool]))) ((false, ()), ()))))⟩
noncomputable def wbfq (a1_ : Y1) (a2_ : Int) (a3_ : Int) : Tr (Bool) :=
 .c ((Unit) ⊕ (Unit)) (walx (a1_, (a2_, a3_)) (0 : Int)) fun r7_ =>
 .s (Unit) (Unit) r7_
 (fun _ => .l true)
 (fun _ => .l false)
noncomputable def wauy (a1_ : Y1) (a2_ : Int) (a3_ : Int) : Option (Bool) := (wbfq a1_ a2_ a3_).ev
noncomputable def wbyo : RetK := yr [.tmp 6] (yj [.dat .bool])
noncomputable def wbfr : FD := yd (yj [.dat y1, .dat yi, .dat yi]) [] [] Bool (fun x => wauy x.1.1 x.1.2.1 x.1.2.2.1) (fun r => ([.dat .bool r], []))
noncomputable def wbfs : Env := wab [(130, wxy)]
noncomputable def wbft : List (Nat × LD) := [(0, wacl)]
noncomputable def wauz : Code := (f122.body).getD .skip
noncomputable def wbfu (a1_ : List Y1) (a2_ : Y1) : Tr (Int × (Bool)) :=
 .c (Bool) (wux a1_) fun r1_ =>
 .t (!r1_)
 (.l ((0 : Int), false))
 (.t (decide (((length a2_ : Nat) : Int) < (2 : Int)))
 (.l ((0 : Int), false))
 (.c (Bool) (wauy a2_ (0 : Int) (wrap .i64 (((length a1_ : Nat) : Int) - 1))) fun r2_ =>
 .t (!r2_)
 (.l ((0 : Int), false))
 (.c (Int) (wafu a1_ a2_) fun r3_ =>
 .l (r3_, true))))
noncomputable def wyi (a1_ : List Y1) (a2_ : Y1) : Option (Int × (Bool)) := (wbfu a1_ a2_).ev
noncomputable def wbyp : RetK := yr [.tmp 4, .tmp 5] (yj [.dat yi, .dat .bool])
noncomputable def wbfv : FD := yd (yj [.dat y2, .dat y1]) [] [] (Int × (Bool)) (fun x => wyi x.1.1 x.1.2.1) (fun r => ([.dat yi r.1, .dat .bool r.2], []))
noncomputable def wbfw (a1_ : Y1) (a2_ : Int) (a3_ : Int) : Tr (Int × (Y1 × (Int × Int))) :=
 .c (Int × (Y1 × (Int × Int))) (wun ([(3 : Int), (5 : Int), (8 : Int), (12 : Int), (1 : Int), (2 : Int), (20 : Int), (100 : Int), (101 : Int), (0 : Int), (6 : Int)] : Y1) a1_ a2_ a3_) fun r1_ =>
 .l (r1_.1, (r1_.2.1, (r1_.2.2.1, r1_.2.2.2)))
noncomputable def wava (a1_ : Y1) (a2_ : Int) (a3_ : Int) : Option (Int × (Y1 × (Int × Int))) := (wbfw a1_ a2_ a3_).ev
noncomputable def wbyq : RetK := { acts := [], res := [.tmp 2], sh := (yj [.dat yi]), obs := [(64, .cells (yj [.dat (.slice (.int .u8)), .dat yi, .dat (.int .u64)]))], pins := [(0, 0, 64)] }
noncomputable def wbfx : FD := yd (yj [.box 64 0]) [(64, .cells (yj [.dat (.slice (.int .u8)), .dat yi, .dat (.int .u64)]))] [.arg 0] (Int × (Y1 × (Int × Int))) (fun x => wava x.2.1.1 x.2.1.2.1 x.2.1.2.2.1) (fun r => ([.dat yi r.1], [(64, .cells [.dat (.slice (.int .u8)) r.2.1, .dat yi r.2.2.1, .dat (.int .u64) r.2.2.2])]))
noncomputable def wbyr : Nat → Nat → List Nat := fun r i => match look [(1, [(2, [4])])] r with
 | some l => (look l i).getD []
 | none => []
noncomputable def wavb (a1_ : Int) : Tr (Bool) :=
 .c (Bool) (wuw a1_ (1 : Int) (100 : Int)) fun r1_ =>
 .l r1_
noncomputable def waly (a1_ : Int) : Option (Bool) := (wavb a1_).ev
noncomputable def wbys : RetK := yr [.tmp 2] (yj [.dat .bool])
noncomputable def wavc : FD := yd (yj [.dat yi]) [] [] Bool (fun x => waly x.1.1) (fun r => ([.dat .bool r], []))
noncomputable def wob (k : Y2 × (Int × (Int × (Int × (Int × Y2))))) (v : Bool × Int) : Tr ((Bool × Int) ⊕ (Bool)) :=
 .g (inR k.2.2.2.2.1 (length k.2.2.2.2.2)) <|
 .g (decide ((toNat k.2.2.2.2.1) < length k.2.2.2.2.2)) <|
 .t (decide (v.2 < ((length (getD k.2.2.2.2.2 (toNat k.2.2.2.2.1) ([] : Y1)) : Nat) : Int)))
 (.t v.1
 (.g (inR k.2.2.2.2.1 (length k.2.2.2.2.2)) <|
 .g (decide ((toNat k.2.2.2.2.1) < length k.2.2.2.2.2)) <|
 .g (inR v.2 (length (getD k.2.2.2.2.2 (toNat k.2.2.2.2.1) ([] : Y1)))) <|
 .g (decide ((toNat v.2) < length (getD k.2.2.2.2.2 (toNat k.2.2.2.2.1) ([] : Y1)))) <|
 .g (inR (getD (getD k.2.2.2.2.2 (toNat k.2.2.2.2.1) ([] : Y1)) (toNat v.2) (0 : Int)) (length k.1)) <|
 .g (inR k.2.2.1 (length (getD k.1 (toNat (getD (getD k.2.2.2.2.2 (toNat k.2.2.2.2.1) ([] : Y1)) (toNat v.2) (0 : Int))) ([] : Y1)))) <|
 .l (.inl ((decide ((getD (getD k.1 (toNat (getD (getD k.2.2.2.2.2 (toNat k.2.2.2.2.1) ([] : Y1)) (toNat v.2) (0 : Int))) ([] : Y1)) (toNat k.2.2.1) (0 : Int)) < k.2.1)), (wrap .i64 (v.2 + 1)))))
 (.l (.inl (false, (wrap .i64 (v.2 + 1))))))
 (.l (.inr v.1))
noncomputable def wyj (k : Y2 × (Int × (Int × (Int × (Int × Y2))))) (v : Bool × Int) : Option (Bool) := iter (fun v => (wob k v).ev) v
noncomputable def wacm : LD := ⟨{ acts := [], S := { slots := [0, 1, 6, 7, 8, 9, 10, 11], sh := (yj [.dat y2, .dat yi, .arr 12, .dat yi, .dat yi, .dat yi, .dat .bool, .dat yi]), obs := [(12, .rows 24 3 yi)] } }, [(4, { acts := [], S := { slots := [0, 1, 6, 7, 8, 9, 10], sh := (yj [.dat y2, .dat yi, .arr 12, .dat yi, .dat yi, .dat yi, .dat .bool]), obs := [(12, .rows 24 3 yi)] } })], (yh [] .nil), Y2 × (Int × (Int × (Int × (Int × Y2)))), Bool × (Int), Bool, fun k v => ((k.1, (k.2.1, ((), (k.2.2.1, (k.2.2.2.1, (k.2.2.2.2.1, (v.1, (v.2, ())))))))), (k.2.2.2.2.2, ())), fun t => (t.1.1, (t.1.2.1, (t.1.2.2.2.1, (t.1.2.2.2.2.1, (t.1.2.2.2.2.2.1, t.2.1))))), fun t => (t.1.2.2.2.2.2.2.1, t.1.2.2.2.2.2.2.2.1), wob, fun k r => .l (.exit 4 (wal ({ slots := [0, 1, 6, 7, 8, 9, 10], sh := (yj [.dat y2, .dat yi, .arr 12, .dat yi, .dat yi, .dat yi, .dat .bool]), obs := [(12, .rows 24 3 yi)] }) ((k.1, (k.2.1, ((), (k.2.2.1, (k.2.2.2.1, (k.2.2.2.2.1, (r, ()))))))), (k.2.2.2.2.2, ()))))⟩
noncomputable def woc (k : Y2 × (Int × (Int × Y2))) (v : Int × Int) : Tr ((Int × Int) ⊕ (Int)) :=
 .t (decide (0 ≤ v.2))
 (.c (Bool) (wyj (k.1, (k.2.1, (k.2.2.1, (v.1, (v.2, k.2.2.2))))) (true, (0 : Int))) fun r28_ =>
 .t r28_
 (.l (.inl (v.2, (wrap .i64 (v.2 - 1)))))
 (.l (.inl (v.1, (wrap .i64 (v.2 - 1))))))
 (.l (.inr v.1))
noncomputable def walz (k : Y2 × (Int × (Int × Y2))) (v : Int × Int) : Option (Int) := iter (fun v => (woc k v).ev) v
noncomputable def wacn : LD := ⟨{ acts := [], S := { slots := [0, 1, 6, 7, 8, 9], sh := (yj [.dat y2, .dat yi, .arr 12, .dat yi, .dat yi, .dat yi]), obs := [(12, .rows 24 3 yi)] } }, [(2, { acts := [], S := { slots := [0, 1, 6, 7, 8], sh := (yj [.dat y2, .dat yi, .arr 12, .dat yi, .dat yi]), obs := [(12, .rows 24 3 yi)] } })], (yh [] .nil), Y2 × (Int × (Int × Y2)), Int × (Int), Int, fun k v => ((k.1, (k.2.1, ((), (k.2.2.1, (v.1, (v.2, ())))))), (k.2.2.2, ())), fun t => (t.1.1, (t.1.2.1, (t.1.2.2.2.1, t.2.1))), fun t => (t.1.2.2.2.2.1, t.1.2.2.2.2.2.1), woc, fun k r => .l (.exit 2 (wal ({ slots := [0, 1, 6, 7, 8], sh := (yj [.dat y2, .dat yi, .arr 12, .dat yi, .dat yi]), obs := [(12, .rows 24 3 yi)] }) ((k.1, (k.2.1, ((), (k.2.2.1, (r, ()))))), (k.2.2.2, ()))))⟩
noncomputable def wod (k : Y2 × Int) (v : Int × Y2) : Tr ((Int × Y2) ⊕ Y2) :=
 .t (decide (v.1 < ((length k.1 : Nat) : Int)))
 (.c (Int) (walz (k.1, (k.2, (v.1, v.2))) (((length v.2 : Nat) : Int), (wrap .i64 (((length v.2 : Nat) : Int) - 1)))) fun r34_ =>
 .t (r34_ == ((length v.2 : Nat) : Int))
 (.g (decide ((length v.2 + 1) * 24 ≤ 140737488355328)) <|
 .g (inR r34_ (length (set (v.2 ++ [[]]) (length v.2) ([] : Y1)))) <|
 .g (decide ((toNat r34_) < length (set (v.2 ++ [[]]) (length v.2) ([] : Y1)))) <|
 .g (decide ((length (getD (set (v.2 ++ [[]]) (length v.2) ([] : Y1)) (toNat r34_) ([] : Y1)) + length ([v.1] : Y1)) * 8 ≤ 140737488355328)) <|
 .g (inR r34_ (length (set (v.2 ++ [[]]) (length v.2) ([] : Y1)))) <|
 .g (decide ((toNat r34_) < length (set (v.2 ++ [[]]) (length v.2) ([] : Y1))) && decide ((toNat r34_) = (toNat r34_))) <|
 .l (.inl ((wrap .i64 (v.1 + 1)), (set (set (v.2 ++ [[]]) (length v.2) ([] : Y1)) (toNat r34_) ((getD (set (v.2 ++ [[]]) (length v.2) ([] : Y1)) (toNat r34_) ([] : Y1)) ++ ([v.1] : Y1))))))
 (.g (inR r34_ (length v.2)) <|
 .g (decide ((toNat r34_) < length v.2)) <|
 .g (decide ((length (getD v.2 (toNat r34_) ([] : Y1)) + length ([v.1] : Y1)) * 8 ≤ 140737488355328)) <|
 .g (inR r34_ (length v.2)) <|
 .g (decide ((toNat r34_) < length v.2) && decide ((toNat r34_) = (toNat r34_))) <|
 .l (.inl ((wrap .i64 (v.1 + 1)), (set v.2 (toNat r34_) ((getD v.2 (toNat r34_) ([] : Y1)) ++ ([v.1] : Y1)))))))
 (.l (.inr v.2))
noncomputable def wama (k : Y2 × Int) (v : Int × Y2) : Option Y2 := iter (fun v => (wod k v).ev) v
noncomputable def waco : LD := ⟨{ acts := [], S := { slots := [0, 1, 6, 7], sh := (yj [.dat y2, .dat yi, .arr 12, .dat yi]), obs := [(12, .rows 24 3 yi)] } }, [(0, { acts := [], S := { slots := [6], sh := (yj [.arr 12]), obs := [(12, .rows 24 3 yi)] } })], (yh [] .nil), Y2 × (Int), Int × Y2, List Y1, fun k v => ((k.1, (k.2, ((), (v.1, ())))), (v.2, ())), fun t => (t.1.1, t.1.2.1), fun t => (t.1.2.2.2.1, t.2.1), wod, fun _ r => .l (.exit 0 (wal ({ slots := [6], sh := (yj [.arr 12]), obs := [(12, .rows 24 3 yi)] }) (((), ()), (r, ()))))⟩
noncomputable def wbfy (a1_ : List Y1) (a2_ : Int) : Tr (Bool × Y2) :=
 .c (Bool) (wux a1_) fun r1_ =>
 .t (!r1_)
 (.l (false, ([] : List Y1)))
 (.c (Bool) (waly a2_) fun r2_ =>
 .t (!r2_)
 (.l (false, ([] : List Y1)))
 (.c Y2 (wama (a1_, a2_) ((0 : Int), ([] : List Y1))) fun r36_ =>
 .l (true, r36_)))
noncomputable def wro (a1_ : List Y1) (a2_ : Int) : Option (Bool × Y2) := (wbfy a1_ a2_).ev
noncomputable def wbyt : RetK := { acts := [.ren 12 0], res := [.tmp 4, .tmp 5], sh := (yj [.arr 0, .dat .bool]), obs := [(0, .rows 24 3 yi)], pins := [] }
noncomputable def wavd : FD := yd (yj [.dat y2, .dat yi]) [] [] (Bool × Y2) (fun x => wro x.1.1 x.1.2.1) (fun r => ([.arr 0, .dat .bool r.1], [(0, .rows 24 3 yi r.2 none)]))
noncomputable def wamb : Nat → Nat → List Nat := fun r i => match look [(1, [(0, [1000000])])] r with
 | some l => (look l i).getD []
 | none => []
noncomputable def wamc : Env := wab [(114, wxz), (129, wavc)]
noncomputable def wamd : List (Nat × LD) := [(4, wacm), (2, wacn), (0, waco)]
noncomputable def wve : Code := (f39.body).getD .skip
noncomputable def wbfz (a1_ : Y1) : Tr (Int × (Y2 × Y2)) :=
 .c (Y2 × (Y1 × (Int × Int))) (wafl (7 : Int) a1_ (0 : Int) (0 : Int)) fun r1_ =>
 .c (Int × (Y1 × (Int × Int))) (wava r1_.2.1 r1_.2.2.1 r1_.2.2.2) fun r2_ =>
 .c (Bool × Y2) (wro r1_.1 r2_.1) fun r3_ =>
 .t (decide ((0 : Int) < ((length r3_.2 : Nat) : Int)))
 (.c (Int × (Y1 × (Int × Int))) (wlg ((length r3_.2 : Nat) : Int) r2_.2.1 r2_.2.2.1 r2_.2.2.2) fun r4_ =>
 .c (Int × (Y1 × (Int × Int))) (wlg (8 : Int) r4_.2.1 r4_.2.2.1 r4_.2.2.2) fun r5_ =>
 .t (r5_.1 == 0)
 (.g (inR r4_.1 (length r3_.2)) <|
 .g (decide ((toNat r4_.1) < length r3_.2)) <|
 .c (Int × (Y1 × (Int × Int))) (wlg (8 : Int) r5_.2.1 r5_.2.2.1 r5_.2.2.2) fun r6_ =>
 .g (decide ((length (getD r3_.2 (toNat r4_.1) ([] : Y1)) + length ([(wrap .i64 (r6_.1 - 1))] : Y1)) * 8 ≤ 140737488355328)) <|
 .g (inR r4_.1 (length r3_.2)) <|
 .g (decide ((toNat r4_.1) < length r3_.2) && decide ((toNat r4_.1) = (toNat r4_.1))) <|
 .l (r2_.1, (r1_.1, (set r3_.2 (toNat r4_.1) ((getD r3_.2 (toNat r4_.1) ([] : Y1)) ++ ([(wrap .i64 (r6_.1 - 1))] : Y1))))))
 (.t (r5_.1 == 1)
 (.g (inR r4_.1 (length r3_.2)) <|
 .g (decide ((toNat r4_.1) < length r3_.2)) <|
 .g (decide ((0 : Int) ≤ (1 : Int)) && decide ((1 : Int) ≤ ((length (getD r3_.2 (toNat r4_.1) ([] : Y1)) : Nat) : Int))) <|
 .g (inR r4_.1 (length r3_.2)) <|
 .g (decide ((toNat r4_.1) < length r3_.2)) <|
 .l (r2_.1, (r1_.1, (set r3_.2 (toNat r4_.1) (List.drop (toNat 1) (List.take (length (getD r3_.2 (toNat r4_.1) ([] : Y1))) (getD r3_.2 (toNat r4_.1) ([] : Y1))))))))
 (.t (r5_.1 == 2)
 (.g (decide ((length r3_.2 + 1) * 24 ≤ 140737488355328)) <|
 .l (r2_.1, (r1_.1, (set (r3_.2 ++ [[]]) (length r3_.2) ([] : Y1)))))
 (.t (r5_.1 == 3)
 (.t (decide ((1 : Int) < ((length r3_.2 : Nat) : Int)))
 (.g (inR 0 (length r3_.2)) <|
 .g (decide ((toNat 0) < length r3_.2)) <|
 .g (inR 1 (length r3_.2)) <|
 .g (decide ((toNat 1) < length r3_.2)) <|
 .g (decide ((length (getD r3_.2 (toNat 0) ([] : Y1)) + length (getD r3_.2 (toNat 1) ([] : Y1))) * 8 ≤ 140737488355328)) <|
 .g (inR 0 (length r3_.2)) <|
 .g (decide ((toNat 0) < length r3_.2) && decide ((toNat 0) = (toNat 0))) <|
 .g (decide ((0 : Int) ≤ (1 : Int)) && decide ((1 : Int) ≤ ((length (set r3_.2 (toNat 0) ((getD r3_.2 (toNat 0) ([] : Y1)) ++ (getD r3_.2 (toNat 1) ([] : Y1)))) : Nat) : Int))) <|
 .g (decide ((0 : Int) ≤ (2 : Int)) && decide ((2 : Int) ≤ ((length (set r3_.2 (toNat 0) ((getD r3_.2 (toNat 0) ([] : Y1)) ++ (getD r3_.2 (toNat 1) ([] : Y1)))) : Nat) : Int))) <|
 .g (decide (((toNat 1) + (length (set r3_.2 (toNat 0) ((getD r3_.2 (toNat 0) ([] : Y1)) ++ (getD r3_.2 (toNat 1) ([] : Y1)))) - (toNat 2))) * 24 ≤ 140737488355328)) <|
 .l (r2_.1, (r1_.1, (List.take (toNat 1) (set r3_.2 (toNat 0) ((getD r3_.2 (toNat 0) ([] : Y1)) ++ (getD r3_.2 (toNat 1) ([] : Y1)))) ++ List.drop (toNat 2) (set r3_.2 (toNat 0) ((getD r3_.2 (toNat 0) ([] : Y1)) ++ (getD r3_.2 (toNat 1) ([] : Y1))))))))
 (.l (r2_.1, (r1_.1, r3_.2))))
 (.l (r2_.1, (r1_.1, r3_.2)))))))
 (.l (r2_.1, (r1_.1, r3_.2)))
noncomputable def wyk (a1_ : Y1) : Option (Int × (Y2 × Y2)) := (wbfz a1_).ev
noncomputable def wbyu : RetK := { acts := [.ren 960 0, .ren 1344 1, .flat 1], res := [.tmp 2, .tmp 3, .tmp 4], sh := (yj [.arr 0, .arr 1, .dat yi]), obs := [(0, .rows 24 3 yi), (1, .arr 24 y1)], pins := [] }
noncomputable def wbga : FD := yd (yj [.dat (.slice (.int .u8))]) [] [] (Int × (Y2 × Y2)) (fun x => wyk x.1.1) (fun r => ([.arr 0, .arr 1, .dat yi r.1], [(0, .rows 24 3 yi r.2.1 none), (1, .arr 24 y1 r.2.2)]))
noncomputable def wbyv : Nat → Nat → List Nat := fun r i => match look [(10, [(0, [110001344])]), (16, [(0, [110001344])])] r with
 | some l => (look l i).getD []
 | none => []
noncomputable def wbgb (a1_ : Int) : Tr Y1 :=
 .t (decide (a1_ < 0))
 (.f)
 (.t (decide ((0 : Int) < (wrap .i64 (a1_ - (wrap .i64 ((0 : Int) - 0))))))
 (.g (decide ((0 : Int) ≤ (0 : Int)) && decide ((0 : Int) ≤ ((0 : Nat) : Int))) <|
 .g (decide ((0 : Int) < (wrap .i64 (a1_ - (wrap .i64 ((0 : Int) - 0))))) && decide ((wrap .i64 (a1_ - (wrap .i64 ((0 : Int) - 0)))) * ((8 : Nat) : Int) ≤ 281474976710656)) <|
 .g (decide ((0 : Int) ≤ (0 : Int)) && decide ((0 : Int) ≤ ((length (List.replicate (toNat (wrap .i64 (a1_ - (wrap .i64 ((0 : Int) - 0))))) (0 : Int)) : Nat) : Int))) <|
 .l (List.take (toNat 0) (List.replicate (toNat (wrap .i64 (a1_ - (wrap .i64 ((0 : Int) - 0))))) (0 : Int))))
 (.l ([] : Y1)))
noncomputable def wave (a1_ : Int) : Option Y1 := (wbgb a1_).ev
noncomputable def wbyw : RetK := { acts := [.own 4 0 3 yi, .ren 22 0], res := [.tmp 4], sh := (yj [.arr 0]), obs := [(0, .arr 3 yi)], pins := [] }
noncomputable def wbgc : FD := yd (yj [.nilsl, .dat yi]) [] [] Y1 (fun x => wave x.1.2.1) (fun r => ([.arr 0], [(0, .arr 3 yi r)]))
noncomputable def woe (k : Y2 × (Y2 × Int)) (v : Int × Int) : Tr ((Int × Int) ⊕ (Int)) :=
 .t (decide (v.2 < k.2.2))
 (.g (inR v.2 (length k.2.1)) <|
 .t (decide ((wrap .i64 (v.1 + ((length (getD k.2.1 (toNat v.2) ([] : Y1)) : Nat) : Int))) < (0 : Int)))
 (.f)
 (.l (.inl ((wrap .i64 (v.1 + ((length (getD k.2.1 (toNat v.2) ([] : Y1)) : Nat) : Int))), (wrap .i64 (v.2 + 1))))))
 (.l (.inr v.1))
noncomputable def wame (k : Y2 × (Y2 × Int)) (v : Int × Int) : Option (Int) := iter (fun v => (woe k v).ev) v
noncomputable def wacp : LD := ⟨(yh [0, 3, 9, 10, 11] (yj [.dat y2, .dat yi, .dat y2, .dat yi, .dat yi])), [(0, (yh [0, 3] (yj [.dat y2, .dat yi])))], (yh [] .nil), Y2 × (Y2 × Int), Int × (Int), Int, fun k v => ((k.1, (v.1, (k.2.1, (k.2.2, (v.2, ()))))), ()), fun t => (t.1.1, (t.1.2.2.1, t.1.2.2.2.1)), fun t => (t.1.2.1, t.1.2.2.2.2.1), woe, fun k r => .l (.exit 0 (wal ((ys [0, 3] (yj [.dat y2, .dat yi]))) ((k.1, (r, ())), ())))⟩
noncomputable def wof (k : Y2 × Int) (v : Int × Y1) : Tr ((Int × Y1) ⊕ Y1) :=
 .t (decide (v.1 < k.2))
 (.g (inR v.1 (length k.1)) <|
 .g (decide ((length v.2 + length (getD k.1 (toNat v.1) ([] : Y1))) * 8 ≤ 140737488355328)) <|
 .l (.inl ((wrap .i64 (v.1 + 1)), (v.2 ++ (getD k.1 (toNat v.1) ([] : Y1))))))
 (.l (.inr v.2))
noncomputable def wamf (k : Y2 × Int) (v : Int × Y1) : Option Y1 := iter (fun v => (wof k v).ev) v
noncomputable def wacq : LD := ⟨{ acts := [], S := { slots := [6, 25, 26, 27], sh := (yj [.arr 1536, .dat y2, .dat yi, .dat yi]), obs := [(1536, .arr 3 yi)] } }, [(2, { acts := [], S := { slots := [6], sh := (yj [.arr 1536]), obs := [(1536, .arr 3 yi)] } })], (yh [] .nil), Y2 × (Int), Int × Y1, Y1, fun k v => (((), (k.1, (k.2, (v.1, ())))), (v.2, ())), fun t => (t.1.2.1, t.1.2.2.1), fun t => (t.1.2.2.2.1, t.2.1), wof, fun _ r => .l (.exit 2 (wal ({ slots := [6], sh := (yj [.arr 1536]), obs := [(1536, .arr 3 yi)] }) (((), ()), (r, ()))))⟩
noncomputable def wbgd (a1_ : List Y1) : Tr Y1 :=
 .c (Int) (wame (a1_, (a1_, ((length a1_ : Nat) : Int))) ((0 : Int), (0 : Int))) fun r8_ =>
 .c Y1 (wave r8_) fun r9_ =>
 .c Y1 (wamf (a1_, ((length a1_ : Nat) : Int)) ((0 : Int), r9_)) fun r15_ =>
 .l r15_
noncomputable def wavf (a1_ : List Y1) : Option Y1 := (wbgd a1_).ev
noncomputable def wbyx : RetK := { acts := [.ren 1536 0], res := [.tmp 2], sh := (yj [.arr 0]), obs := [(0, .arr 3 yi)], pins := [] }
noncomputable def wbge : FD := yd (yj [.dat y2]) [] [] Y1 (fun x => wavf x.1.1) (fun r => ([.arr 0], [(0, .arr 3 yi r)]))
noncomputable def wavg : Env := wab [(205, wbgc)]
noncomputable def wavh : List (Nat × LD) := [(0, wacp), (2, wacq)]
noncomputable def wafz : Code := (f125.body).getD .skip
noncomputable def wbnx (a1_ : Y1) : Option (List Int) := some a1_
noncomputable def wbny : FD := waap
noncomputable def wbnz (a1_ : Y1) : Option (List Int) := wgw a1_
noncomputable def wboa : FD := wul
noncomputable def T_zb (a1_ : Int) (a2_ : Int) : Tr (Bool) :=
 .c (Bool) (F_zd a1_) fun r1_ =>
 .t r1_
 (.c (Bool) (F_zd a2_) fun r2_ =>
 .t (!r2_)
 (.l true)
 (.l (decide (a1_ < a2_))))
 (.l (decide (a1_ < a2_)))
noncomputable def wgx (a1_ : Int) (a2_ : Int) : Option (Bool) := (T_zb a1_ a2_).ev
noncomputable def K_zb : RetK := yr [.tmp 4] (yj [.dat .bool])
noncomputable def D_zb : FD := yd (yj [.dat yi, .dat yi]) [] [] Bool (fun x => wgx x.1.1 x.1.2.1) (fun r => ([.dat .bool r], []))
noncomputable def whz (k : Int × (Int × Int)) (v : Int × Y1) : Tr ((Int × Y1) ⊕ Y1) :=
 .t (decide (k.1 < v.1))
 (.g (inR v.1 (length v.2)) <|
 .g (decide ((toNat v.1) < length v.2)) <|
 .g (inR (wrap .i64 (v.1 - 1)) (length v.2)) <|
 .g (decide ((toNat (wrap .i64 (v.1 - 1))) < length v.2)) <|
 .c (Bool) (wgx (getD v.2 (toNat v.1) 0) (getD v.2 (toNat (wrap .i64 (v.1 - 1))) (0 : Int))) fun r10_ =>
 .t r10_
 (.g (inR (wrap .i64 (v.1 - 1)) (length v.2)) <|
 .g (decide ((toNat (wrap .i64 (v.1 - 1))) < length v.2)) <|
 .g (inR v.1 (length v.2)) <|
 .g (decide ((toNat v.1) < length v.2)) <|
 .g (inR v.1 (length v.2)) <|
 .g (decide ((toNat v.1) < length v.2)) <|
 .g (inR (wrap .i64 (v.1 - 1)) (length (set v.2 (toNat v.1) (getD v.2 (toNat (wrap .i64 (v.1 - 1))) (0 : Int))))) <|
 .g (decide ((toNat (wrap .i64 (v.1 - 1))) < length (set v.2 (toNat v.1) (getD v.2 (toNat (wrap .i64 (v.1 - 1))) (0 : Int))))) <|
 .l (.inl ((wrap .i64 (v.1 - 1)), (set (set v.2 (toNat v.1) (getD v.2 (toNat (wrap .i64 (v.1 - 1))) (0 : Int))) (toNat (wrap .i64 (v.1 - 1))) (getD v.2 (toNat v.1) 0)))))
 (.l (.inr v.2)))
 (.l (.inr v.2))
noncomputable def wog (k : Int × (Int × Int)) (v : Int × Y1) : Option Y1 := iter (fun v => (whz k v).ev) v
noncomputable def wacr : LD := ⟨{ acts := [], S := { slots := [0, 1, 2, 6, 7], sh := (yj [.arr 64, .dat yi, .dat yi, .dat yi, .dat yi]), obs := [(64, .arr 3 yi)] } }, [(2, { acts := [], S := { slots := [0, 1, 2, 6], sh := (yj [.arr 64, .dat yi, .dat yi, .dat yi]), obs := [(64, .arr 3 yi)] } })], (yh [] .nil), Int × (Int × Int), Int × Y1, Y1, fun k v => (((), (k.1, (k.2.1, (k.2.2, (v.1, ()))))), (v.2, ())), fun t => (t.1.2.1, (t.1.2.2.1, t.1.2.2.2.1)), fun t => (t.1.2.2.2.2.1, t.2.1), whz, fun k r => .l (.exit 2 (wal ({ slots := [0, 1, 2, 6], sh := (yj [.arr 64, .dat yi, .dat yi, .dat yi]), obs := [(64, .arr 3 yi)] }) (((), (k.1, (k.2.1, (k.2.2, ())))), (r, ()))))⟩
noncomputable def woh (k : Int × Int) (v : Int × Y1) : Tr ((Int × Y1) ⊕ Y1) :=
 .t (decide (v.1 < k.2))
 (.c Y1 (wog (k.1, (k.2, v.1)) (v.1, v.2)) fun r15_ =>
 .l (.inl ((wrap .i64 (v.1 + 1)), r15_)))
 (.l (.inr v.2))
noncomputable def wamg (k : Int × Int) (v : Int × Y1) : Option Y1 := iter (fun v => (woh k v).ev) v
noncomputable def wacs : LD := ⟨{ acts := [], S := { slots := [0, 1, 2, 6], sh := (yj [.arr 64, .dat yi, .dat yi, .dat yi]), obs := [(64, .arr 3 yi)] } }, [(0, { acts := [], S := { slots := [0], sh := (yj [.arr 64]), obs := [(64, .arr 3 yi)] } })], (yh [] .nil), Int × (Int), Int × Y1, Y1, fun k v => (((), (k.1, (k.2, (v.1, ())))), (v.2, ())), fun t => (t.1.2.1, t.1.2.2.1), fun t => (t.1.2.2.2.1, t.2.1), woh, fun _ r => .l (.exit 0 (wal ({ slots := [0], sh := (yj [.arr 64]), obs := [(64, .arr 3 yi)] }) (((), ()), (r, ()))))⟩
noncomputable def wbgf (a2_ : Int) (a3_ : Int) (a1_ : Y1) : Tr Y1 :=
 .c Y1 (wamg (a2_, a3_) ((wrap .i64 (a2_ + 1)), a1_)) fun r17_ =>
 .l r17_
noncomputable def wamh (a2_ : Int) (a3_ : Int) (a1_ : Y1) : Option Y1 := (wbgf a2_ a3_ a1_).ev
noncomputable def wbyz : RetK := { acts := [], res := [], sh := .nil, obs := [(64, .arr 3 yi)], pins := [(0, 0, 64)] }
noncomputable def wbgg : FD := yd (yj [.arr 64, .dat yi, .dat yi]) [(64, .arr 3 yi)] [.arg 0] Y1 (fun x => wamh x.1.2.1 x.1.2.2.1 x.2.1) (fun r => ([], [(64, .arr 3 yi r)]))
noncomputable def wavj : Env := wab [(281, D_zb)]
noncomputable def wavk : List (Nat × LD) := [(2, wacr), (0, wacs)]
noncomputable def waga : Code := (f275.body).getD .skip
noncomputable def wami (k : Int × Int) (v : Int × Y1) : Tr ((Int × Y1) ⊕ (Y1 ⊕ Y1)) :=
 .t (decide (k.1 ≤ (wrap .i64 ((wrap .i64 ((2 : Int) * v.1)) + 1))))
 (.l (.inr (.inl v.2)))
 (.t (decide ((wrap .i64 ((wrap .i64 ((wrap .i64 ((2 : Int) * v.1)) + 1)) + 1)) < k.1))
 (.g (inR (wrap .i64 (k.2 + (wrap .i64 ((wrap .i64 ((2 : Int) * v.1)) + 1)))) (length v.2)) <|
 .g (decide ((toNat (wrap .i64 (k.2 + (wrap .i64 ((wrap .i64 ((2 : Int) * v.1)) + 1))))) < length v.2)) <|
 .g (inR (wrap .i64 ((wrap .i64 (k.2 + (wrap .i64 ((wrap .i64 ((2 : Int) * v.1)) + 1)))) + 1)) (length v.2)) <|
 .g (decide ((toNat (wrap .i64 ((wrap .i64 (k.2 + (wrap .i64 ((wrap .i64 ((2 : Int) * v.1)) + 1)))) + 1))) < length v.2)) <|
 .c (Bool) (wgx (getD v.2 (toNat (wrap .i64 (k.2 + (wrap .i64 ((wrap .i64 ((2 : Int) * v.1)) + 1))))) (0 : Int)) (getD v.2 (toNat (wrap .i64 ((wrap .i64 (k.2 + (wrap .i64 ((wrap .i64 ((2 : Int) * v.1)) + 1)))) + 1))) (0 : Int))) fun r5_ =>
 .t r5_
 (.g (inR (wrap .i64 (k.2 + v.1)) (length v.2)) <|
 .g (decide ((toNat (wrap .i64 (k.2 + v.1))) < length v.2)) <|
 .g (inR (wrap .i64 (k.2 + (wrap .i64 ((wrap .i64 ((wrap .i64 ((2 : Int) * v.1)) + 1)) + 1)))) (length v.2)) <|
 .g (decide ((toNat (wrap .i64 (k.2 + (wrap .i64 ((wrap .i64 ((wrap .i64 ((2 : Int) * v.1)) + 1)) + 1))))) < length v.2)) <|
 .c (Bool) (wgx (getD v.2 (toNat (wrap .i64 (k.2 + v.1))) (0 : Int)) (getD v.2 (toNat (wrap .i64 (k.2 + (wrap .i64 ((wrap .i64 ((wrap .i64 ((2 : Int) * v.1)) + 1)) + 1))))) (0 : Int))) fun r6_ =>
 .t (!r6_)
 (.l (.inr (.inr v.2)))
 (.g (inR (wrap .i64 (k.2 + (wrap .i64 ((wrap .i64 ((wrap .i64 ((2 : Int) * v.1)) + 1)) + 1)))) (length v.2)) <|
 .g (decide ((toNat (wrap .i64 (k.2 + (wrap .i64 ((wrap .i64 ((wrap .i64 ((2 : Int) * v.1)) + 1)) + 1))))) < length v.2)) <|
 .g (inR (wrap .i64 (k.2 + v.1)) (length v.2)) <|
 .g (decide ((toNat (wrap .i64 (k.2 + v.1))) < length v.2)) <|
 .g (inR (wrap .i64 (k.2 + v.1)) (length v.2)) <|
 .g (decide ((toNat (wrap .i64 (k.2 + v.1))) < length v.2)) <|
 .g (inR (wrap .i64 (k.2 + (wrap .i64 ((wrap .i64 ((wrap .i64 ((2 : Int) * v.1)) + 1)) + 1)))) (length (set v.2 (toNat (wrap .i64 (k.2 + v.1))) (getD v.2 (toNat (wrap .i64 (k.2 + (wrap .i64 ((wrap .i64 ((wrap .i64 ((2 : Int) * v.1)) + 1)) + 1))))) (0 : Int))))) <|
 .g (decide ((toNat (wrap .i64 (k.2 + (wrap .i64 ((wrap .i64 ((wrap .i64 ((2 : Int) * v.1)) + 1)) + 1))))) < length (set v.2 (toNat (wrap .i64 (k.2 + v.1))) (getD v.2 (toNat (wrap .i64 (k.2 + (wrap .i64 ((wrap .i64 ((wrap .i64 ((2 : Int) * v.1)) + 1)) + 1))))) (0 : Int))))) <|
 .l (.inl ((wrap .i64 ((wrap .i64 ((wrap .i64 ((2 : Int) * v.1)) + 1)) + 1)), (set (set v.2 (toNat (wrap .i64 (k.2 + v.1))) (getD v.2 (toNat (wrap .i64 (k.2 + (wrap .i64 ((wrap .i64 ((wrap .i64 ((2 : Int) * v.1)) + 1)) + 1))))) (0 : Int))) (toNat (wrap .i64 (k.2 + (wrap .i64 ((wrap .i64 ((wrap .i64 ((2 : Int) * v.1)) + 1)) + 1))))) (getD v.2 (toNat (wrap .i64 (k.2 + v.1))) (0 : Int)))))))
 (.g (inR (wrap .i64 (k.2 + v.1)) (length v.2)) <|
 .g (decide ((toNat (wrap .i64 (k.2 + v.1))) < length v.2)) <|
 .g (inR (wrap .i64 (k.2 + (wrap .i64 ((wrap .i64 ((2 : Int) * v.1)) + 1)))) (length v.2)) <|
 .g (decide ((toNat (wrap .i64 (k.2 + (wrap .i64 ((wrap .i64 ((2 : Int) * v.1)) + 1))))) < length v.2)) <|
 .c (Bool) (wgx (getD v.2 (toNat (wrap .i64 (k.2 + v.1))) (0 : Int)) (getD v.2 (toNat (wrap .i64 (k.2 + (wrap .i64 ((wrap .i64 ((2 : Int) * v.1)) + 1))))) (0 : Int))) fun r7_ =>
 .t (!r7_)
 (.l (.inr (.inr v.2)))
 (.g (inR (wrap .i64 (k.2 + (wrap .i64 ((wrap .i64 ((2 : Int) * v.1)) + 1)))) (length v.2)) <|
 .g (decide ((toNat (wrap .i64 (k.2 + (wrap .i64 ((wrap .i64 ((2 : Int) * v.1)) + 1))))) < length v.2)) <|
 .g (inR (wrap .i64 (k.2 + v.1)) (length v.2)) <|
 .g (decide ((toNat (wrap .i64 (k.2 + v.1))) < length v.2)) <|
 .g (inR (wrap .i64 (k.2 + v.1)) (length v.2)) <|
 .g (decide ((toNat (wrap .i64 (k.2 + v.1))) < length v.2)) <|
 .g (inR (wrap .i64 (k.2 + (wrap .i64 ((wrap .i64 ((2 : Int) * v.1)) + 1)))) (length (set v.2 (toNat (wrap .i64 (k.2 + v.1))) (getD v.2 (toNat (wrap .i64 (k.2 + (wrap .i64 ((wrap .i64 ((2 : Int) * v.1)) + 1))))) (0 : Int))))) <|
 .g (decide ((toNat (wrap .i64 (k.2 + (wrap .i64 ((wrap .i64 ((2 : Int) * v.1)) + 1))))) < length (set v.2 (toNat (wrap .i64 (k.2 + v.1))) (getD v.2 (toNat (wrap .i64 (k.2 + (wrap .i64 ((wrap .i64 ((2 : Int) * v.1)) + 1))))) (0 : Int))))) <|
 .l (.inl ((wrap .i64 ((wrap .i64 ((2 : Int) * v.1)) + 1)), (set (set v.2 (toNat (wrap .i64 (k.2 + v.1))) (getD v.2 (toNat (wrap .i64 (k.2 + (wrap .i64 ((wrap .i64 ((2 : Int) * v.1)) + 1))))) (0 : Int))) (toNat (wrap .i64 (k.2 + (wrap .i64 ((wrap .i64 ((2 : Int) * v.1)) + 1))))) (getD v.2 (toNat (wrap .i64 (k.2 + v.1))) (0 : Int))))))))
 (.g (inR (wrap .i64 (k.2 + v.1)) (length v.2)) <|
 .g (decide ((toNat (wrap .i64 (k.2 + v.1))) < length v.2)) <|
 .g (inR (wrap .i64 (k.2 + (wrap .i64 ((wrap .i64 ((2 : Int) * v.1)) + 1)))) (length v.2)) <|
 .g (decide ((toNat (wrap .i64 (k.2 + (wrap .i64 ((wrap .i64 ((2 : Int) * v.1)) + 1))))) < length v.2)) <|
 .c (Bool) (wgx (getD v.2 (toNat (wrap .i64 (k.2 + v.1))) (0 : Int)) (getD v.2 (toNat (wrap .i64 (k.2 + (wrap .i64 ((wrap .i64 ((2 : Int) * v.1)) + 1))))) (0 : Int))) fun r8_ =>
 .t (!r8_)
 (.l (.inr (.inr v.2)))
 (.g (inR (wrap .i64 (k.2 + (wrap .i64 ((wrap .i64 ((2 : Int) * v.1)) + 1)))) (length v.2)) <|
 .g (decide ((toNat (wrap .i64 (k.2 + (wrap .i64 ((wrap .i64 ((2 : Int) * v.1)) + 1))))) < length v.2)) <|
 .g (inR (wrap .i64 (k.2 + v.1)) (length v.2)) <|
 .g (decide ((toNat (wrap .i64 (k.2 + v.1))) < length v.2)) <|
 .g (inR (wrap .i64 (k.2 + v.1)) (length v.2)) <|
 .g (decide ((toNat (wrap .i64 (k.2 + v.1))) < length v.2)) <|
 .g (inR (wrap .i64 (k.2 + (wrap .i64 ((wrap .i64 ((2 : Int) * v.1)) + 1)))) (length (set v.2 (toNat (wrap .i64 (k.2 + v.1))) (getD v.2 (toNat (wrap .i64 (k.2 + (wrap .i64 ((wrap .i64 ((2 : Int) * v.1)) + 1))))) (0 : Int))))) <|
 .g (decide ((toNat (wrap .i64 (k.2 + (wrap .i64 ((wrap .i64 ((2 : Int) * v.1)) + 1))))) < length (set v.2 (toNat (wrap .i64 (k.2 + v.1))) (getD v.2 (toNat (wrap .i64 (k.2 + (wrap .i64 ((wrap .i64 ((2 : Int) * v.1)) + 1))))) (0 : Int))))) <|
 .l (.inl ((wrap .i64 ((wrap .i64 ((2 : Int) * v.1)) + 1)), (set (set v.2 (toNat (wrap .i64 (k.2 + v.1))) (getD v.2 (toNat (wrap .i64 (k.2 + (wrap .i64 ((wrap .i64 ((2 : Int) * v.1)) + 1))))) (0 : Int))) (toNat (wrap .i64 (k.2 + (wrap .i64 ((wrap .i64 ((2 : Int) * v.1)) + 1))))) (getD v.2 (toNat (wrap .i64 (k.2 + v.1))) (0 : Int))))))))
noncomputable def wbgh (k : Int × Int) (v : Int × Y1) : Option (Y1 ⊕ Y1) := iter (fun v => (wami k v).ev) v
noncomputable def wact : LD := ⟨{ acts := [], S := { slots := [0, 2, 3, 8], sh := (yj [.arr 64, .dat yi, .dat yi, .dat yi]), obs := [(64, .arr 3 yi)] } }, [(0, { acts := [], S := { slots := [0], sh := (yj [.arr 64]), obs := [(64, .arr 3 yi)] } })], { acts := [], S := { slots := [0], sh := (yj [.arr 64]), obs := [(64, .arr 3 yi)] } }, Int × (Int), Int × Y1, Y1 ⊕ Y1, fun k v => (((), (k.1, (k.2, (v.1, ())))), (v.2, ())), fun t => (t.1.2.1, t.1.2.2.1), fun t => (t.1.2.2.2.1, t.2.1), wami, fun _ r => .s Y1 Y1 r (fun a => .l (.exit 0 (wal ({ slots := [0], sh := (yj [.arr 64]), obs := [(64, .arr 3 yi)] }) (((), ()), (a, ()))))) (fun b => .l (.ret (wal ({ slots := [0], sh := (yj [.arr 64]), obs := [(64, .arr 3 yi)] }) (((), ()), (b, ())))))⟩
noncomputable def wbob (a2_ : Int) (a3_ : Int) (a4_ : Int) (a1_ : Y1) : Tr Y1 :=
 .c (Y1 ⊕ Y1) (wbgh (a3_, a4_) (a2_, a1_)) fun r11_ =>
 .s Y1 Y1 r11_
 (fun r12_ => .l r12_)
 (fun r13_ => .l r13_)
noncomputable def wbgi (a2_ : Int) (a3_ : Int) (a4_ : Int) (a1_ : Y1) : Option Y1 := (wbob a2_ a3_ a4_ a1_).ev
noncomputable def wbza : RetK := { acts := [], res := [], sh := .nil, obs := [(64, .arr 3 yi)], pins := [(0, 0, 64)] }
noncomputable def wbgj : FD := yd (yj [.arr 64, .dat yi, .dat yi, .dat yi]) [(64, .arr 3 yi)] [.arg 0] Y1 (fun x => wbgi x.1.2.1 x.1.2.2.1 x.1.2.2.2.1 x.2.1) (fun r => ([], [(64, .arr 3 yi r)]))
noncomputable def wbgk : Env := wab [(281, D_zb)]
noncomputable def wbgl : List (Nat × LD) := [(0, wact)]
noncomputable def wavl : Code := (f287.body).getD .skip
noncomputable def wamj (k : Int × (Int × Int)) (v : Int × Y1) : Tr ((Int × Y1) ⊕ Y1) :=
 .t (decide (0 ≤ v.1))
 (.c Y1 (wbgi v.1 k.2.2 k.1 v.2) fun r6_ =>
 .l (.inl ((wrap .i64 (v.1 - 1)), r6_)))
 (.l (.inr v.2))
noncomputable def wbgm (k : Int × (Int × Int)) (v : Int × Y1) : Option Y1 := iter (fun v => (wamj k v).ev) v
noncomputable def wacu : LD := ⟨{ acts := [], S := { slots := [0, 6, 7, 8, 9], sh := (yj [.arr 64, .dat yi, .dat yi, .dat yi, .dat yi]), obs := [(64, .arr 3 yi)] } }, [(0, { acts := [], S := { slots := [0, 6, 7, 8], sh := (yj [.arr 64, .dat yi, .dat yi, .dat yi]), obs := [(64, .arr 3 yi)] } })], (yh [] .nil), Int × (Int × Int), Int × Y1, Y1, fun k v => (((), (k.1, (k.2.1, (k.2.2, (v.1, ()))))), (v.2, ())), fun t => (t.1.2.1, (t.1.2.2.1, t.1.2.2.2.1)), fun t => (t.1.2.2.2.2.1, t.2.1), wamj, fun k r => .l (.exit 0 (wal ({ slots := [0, 6, 7, 8], sh := (yj [.arr 64, .dat yi, .dat yi, .dat yi]), obs := [(64, .arr 3 yi)] }) (((), (k.1, (k.2.1, (k.2.2, ())))), (r, ()))))⟩
noncomputable def wamk (k : Int × Int) (v : Int × Y1) : Tr ((Int × Y1) ⊕ Y1) :=
 .t (decide (0 ≤ v.1))
 (.g (inR (wrap .i64 (k.1 + v.1)) (length v.2)) <|
 .g (decide ((toNat (wrap .i64 (k.1 + v.1))) < length v.2)) <|
 .g (inR k.1 (length v.2)) <|
 .g (decide ((toNat k.1) < length v.2)) <|
 .g (inR k.1 (length v.2)) <|
 .g (decide ((toNat k.1) < length v.2)) <|
 .g (inR (wrap .i64 (k.1 + v.1)) (length (set v.2 (toNat k.1) (getD v.2 (toNat (wrap .i64 (k.1 + v.1))) (0 : Int))))) <|
 .g (decide ((toNat (wrap .i64 (k.1 + v.1))) < length (set v.2 (toNat k.1) (getD v.2 (toNat (wrap .i64 (k.1 + v.1))) (0 : Int))))) <|
 .c Y1 (wbgi k.2 v.1 k.1 (set (set v.2 (toNat k.1) (getD v.2 (toNat (wrap .i64 (k.1 + v.1))) (0 : Int))) (toNat (wrap .i64 (k.1 + v.1))) (getD v.2 (toNat k.1) 0))) fun r16_ =>
 .l (.inl ((wrap .i64 (v.1 - 1)), r16_)))
 (.l (.inr v.2))
noncomputable def wbgn (k : Int × Int) (v : Int × Y1) : Option Y1 := iter (fun v => (wamk k v).ev) v
noncomputable def wacv : LD := ⟨{ acts := [], S := { slots := [0, 6, 7, 10], sh := (yj [.arr 64, .dat yi, .dat yi, .dat yi]), obs := [(64, .arr 3 yi)] } }, [(2, { acts := [], S := { slots := [0], sh := (yj [.arr 64]), obs := [(64, .arr 3 yi)] } })], (yh [] .nil), Int × (Int), Int × Y1, Y1, fun k v => (((), (k.1, (k.2, (v.1, ())))), (v.2, ())), fun t => (t.1.2.1, t.1.2.2.1), fun t => (t.1.2.2.2.1, t.2.1), wamk, fun _ r => .l (.exit 2 (wal ({ slots := [0], sh := (yj [.arr 64]), obs := [(64, .arr 3 yi)] }) (((), ()), (r, ()))))⟩
noncomputable def wboc (a2_ : Int) (a3_ : Int) (a1_ : Y1) : Tr Y1 :=
 .g (!decide ((2 : Int) = 0)) <|
 .c Y1 (wbgm (a2_, ((0 : Int), (wrap .i64 (a3_ - a2_)))) ((wrap .i64 (Int.tdiv (wrap .i64 ((wrap .i64 (a3_ - a2_)) - 1)) (2 : Int))), a1_)) fun r11_ =>
 .c Y1 (wbgn (a2_, (0 : Int)) ((wrap .i64 ((wrap .i64 (a3_ - a2_)) - 1)), r11_)) fun r18_ =>
 .l r18_
noncomputable def wbod (a2_ : Int) (a3_ : Int) (a1_ : Y1) : Option Y1 := (wboc a2_ a3_ a1_).ev
noncomputable def wbzb : RetK := { acts := [], res := [], sh := .nil, obs := [(64, .arr 3 yi)], pins := [(0, 0, 64)] }
noncomputable def wbgo : FD := yd (yj [.arr 64, .dat yi, .dat yi]) [(64, .arr 3 yi)] [.arg 0] Y1 (fun x => wbod x.1.2.1 x.1.2.2.1 x.2.1) (fun r => ([], [(64, .arr 3 yi r)]))
noncomputable def wavm : Env := wab [(287, wbgj)]
noncomputable def wavn : List (Nat × LD) := [(0, wacu), (2, wacv)]
noncomputable def wagb : Code := (f276.body).getD .skip
noncomputable def waml (k : Int × (Int × Int)) (v : Int × (Y1 × Int)) : Tr ((Int × (Y1 × Int)) ⊕ Y1) :=
 .g (!decide ((4 : Int) = 0)) <|
 .t (decide (v.1 ≤ (wrap .i64 ((wrap .i64 (k.1 + (wrap .i64 ((wrap .i64 (Int.tdiv k.2.1 (4 : Int))) * (2 : Int))))) + 1))))
 (.c (Int × Int) (wakb v.2.2) fun r8_ =>
 .t (decide (k.2.1 ≤ (wrap .i64 (wrap .u64 (BitVec.toNat ((BitVec.ofInt (IntKind.bits .u64) r8_.1) &&& (BitVec.ofInt (IntKind.bits .u64) (wrap .u64 (k.2.2 - 1)))))))))
 (.g (inR (wrap .i64 (k.1 + (wrap .i64 ((wrap .i64 (wrap .u64 (BitVec.toNat ((BitVec.ofInt (IntKind.bits .u64) r8_.1) &&& (BitVec.ofInt (IntKind.bits .u64) (wrap .u64 (k.2.2 - 1))))))) - k.2.1)))) (length v.2.1)) <|
 .g (decide ((toNat (wrap .i64 (k.1 + (wrap .i64 ((wrap .i64 (wrap .u64 (BitVec.toNat ((BitVec.ofInt (IntKind.bits .u64) r8_.1) &&& (BitVec.ofInt (IntKind.bits .u64) (wrap .u64 (k.2.2 - 1))))))) - k.2.1))))) < length v.2.1)) <|
 .g (inR v.1 (length v.2.1)) <|
 .g (decide ((toNat v.1) < length v.2.1)) <|
 .g (inR v.1 (length v.2.1)) <|
 .g (decide ((toNat v.1) < length v.2.1)) <|
 .g (inR (wrap .i64 (k.1 + (wrap .i64 ((wrap .i64 (wrap .u64 (BitVec.toNat ((BitVec.ofInt (IntKind.bits .u64) r8_.1) &&& (BitVec.ofInt (IntKind.bits .u64) (wrap .u64 (k.2.2 - 1))))))) - k.2.1)))) (length (set v.2.1 (toNat v.1) (getD v.2.1 (toNat (wrap .i64 (k.1 + (wrap .i64 ((wrap .i64 (wrap .u64 (BitVec.toNat ((BitVec.ofInt (IntKind.bits .u64) r8_.1) &&& (BitVec.ofInt (IntKind.bits .u64) (wrap .u64 (k.2.2 - 1))))))) - k.2.1))))) (0 : Int))))) <|
 .g (decide ((toNat (wrap .i64 (k.1 + (wrap .i64 ((wrap .i64 (wrap .u64 (BitVec.toNat ((BitVec.ofInt (IntKind.bits .u64) r8_.1) &&& (BitVec.ofInt (IntKind.bits .u64) (wrap .u64 (k.2.2 - 1))))))) - k.2.1))))) < length (set v.2.1 (toNat v.1) (getD v.2.1 (toNat (wrap .i64 (k.1 + (wrap .i64 ((wrap .i64 (wrap .u64 (BitVec.toNat ((BitVec.ofInt (IntKind.bits .u64) r8_.1) &&& (BitVec.ofInt (IntKind.bits .u64) (wrap .u64 (k.2.2 - 1))))))) - k.2.1))))) (0 : Int))))) <|
 .l (.inl ((wrap .i64 (v.1 + 1)), ((set (set v.2.1 (toNat v.1) (getD v.2.1 (toNat (wrap .i64 (k.1 + (wrap .i64 ((wrap .i64 (wrap .u64 (BitVec.toNat ((BitVec.ofInt (IntKind.bits .u64) r8_.1) &&& (BitVec.ofInt (IntKind.bits .u64) (wrap .u64 (k.2.2 - 1))))))) - k.2.1))))) (0 : Int))) (toNat (wrap .i64 (k.1 + (wrap .i64 ((wrap .i64 (wrap .u64 (BitVec.toNat ((BitVec.ofInt (IntKind.bits .u64) r8_.1) &&& (BitVec.ofInt (IntKind.bits .u64) (wrap .u64 (k.2.2 - 1))))))) - k.2.1))))) (getD v.2.1 (toNat v.1) 0)), r8_.2))))
 (.g (inR (wrap .i64 (k.1 + (wrap .i64 (wrap .u64 (BitVec.toNat ((BitVec.ofInt (IntKind.bits .u64) r8_.1) &&& (BitVec.ofInt (IntKind.bits .u64) (wrap .u64 (k.2.2 - 1))))))))) (length v.2.1)) <|
 .g (decide ((toNat (wrap .i64 (k.1 + (wrap .i64 (wrap .u64 (BitVec.toNat ((BitVec.ofInt (IntKind.bits .u64) r8_.1) &&& (BitVec.ofInt (IntKind.bits .u64) (wrap .u64 (k.2.2 - 1)))))))))) < length v.2.1)) <|
 .g (inR v.1 (length v.2.1)) <|
 .g (decide ((toNat v.1) < length v.2.1)) <|
 .g (inR v.1 (length v.2.1)) <|
 .g (decide ((toNat v.1) < length v.2.1)) <|
 .g (inR (wrap .i64 (k.1 + (wrap .i64 (wrap .u64 (BitVec.toNat ((BitVec.ofInt (IntKind.bits .u64) r8_.1) &&& (BitVec.ofInt (IntKind.bits .u64) (wrap .u64 (k.2.2 - 1))))))))) (length (set v.2.1 (toNat v.1) (getD v.2.1 (toNat (wrap .i64 (k.1 + (wrap .i64 (wrap .u64 (BitVec.toNat ((BitVec.ofInt (IntKind.bits .u64) r8_.1) &&& (BitVec.ofInt (IntKind.bits .u64) (wrap .u64 (k.2.2 - 1)))))))))) (0 : Int))))) <|
 .g (decide ((toNat (wrap .i64 (k.1 + (wrap .i64 (wrap .u64 (BitVec.toNat ((BitVec.ofInt (IntKind.bits .u64) r8_.1) &&& (BitVec.ofInt (IntKind.bits .u64) (wrap .u64 (k.2.2 - 1)))))))))) < length (set v.2.1 (toNat v.1) (getD v.2.1 (toNat (wrap .i64 (k.1 + (wrap .i64 (wrap .u64 (BitVec.toNat ((BitVec.ofInt (IntKind.bits .u64) r8_.1) &&& (BitVec.ofInt (IntKind.bits .u64) (wrap .u64 (k.2.2 - 1)))))))))) (0 : Int))))) <|
 .l (.inl ((wrap .i64 (v.1 + 1)), ((set (set v.2.1 (toNat v.1) (getD v.2.1 (toNat (wrap .i64 (k.1 + (wrap .i64 (wrap .u64 (BitVec.toNat ((BitVec.ofInt (IntKind.bits .u64) r8_.1) &&& (BitVec.ofInt (IntKind.bits .u64) (wrap .u64 (k.2.2 - 1)))))))))) (0 : Int))) (toNat (wrap .i64 (k.1 + (wrap .i64 (wrap .u64 (BitVec.toNat ((BitVec.ofInt (IntKind.bits .u64) r8_.1) &&& (BitVec.ofInt (IntKind.bits .u64) (wrap .u64 (k.2.2 - 1)))))))))) (getD v.2.1 (toNat v.1) 0)), r8_.2)))))
 (.l (.inr v.2.1))
noncomputable def wbgp (k : Int × (Int × Int)) (v : Int × (Y1 × Int)) : Option Y1 := iter (fun v => (waml k v).ev) v
noncomputable def wacw : LD := ⟨{ acts := [], S := { slots := [0, 1, 6, 7, 8, 9], sh := (yj [.arr 64, .dat yi, .dat yi, .box 7 0, .dat (.int .u64), .dat yi]), obs := [(64, .arr 3 yi), (7, .cells (yj [.dat (.int .u64)]))] } }, [(0, { acts := [], S := { slots := [0], sh := (yj [.arr 64]), obs := [(64, .arr 3 yi)] } })], (yh [] .nil), Int × (Int × Int), Int × (Y1 × Int), Y1, fun k v => (((), (k.1, (k.2.1, ((), (k.2.2, (v.1, ())))))), (v.2.1, ((v.2.2, ()), ()))), fun t => (t.1.2.1, (t.1.2.2.1, t.1.2.2.2.2.1)), fun t => (t.1.2.2.2.2.2.1, (t.2.1, t.2.2.1.1)), waml, fun _ r => .l (.exit 0 (wal ({ slots := [0], sh := (yj [.arr 64]), obs := [(64, .arr 3 yi)] }) (((), ()), (r, ()))))⟩
noncomputable def wboe (a2_ : Int) (a3_ : Int) (a1_ : Y1) : Tr Y1 :=
 .t (decide ((8 : Int) ≤ (wrap .i64 (a3_ - a2_))))
 (.c (Int) (waka (wrap .i64 (a3_ - a2_))) fun r1_ =>
 .g (!decide ((4 : Int) = 0)) <|
 .c Y1 (wbgp (a2_, ((wrap .i64 (a3_ - a2_)), r1_)) ((wrap .i64 ((wrap .i64 (a2_ + (wrap .i64 ((wrap .i64 (Int.tdiv (wrap .i64 (a3_ - a2_)) (4 : Int))) * (2 : Int))))) - 1)), (a1_, (wrap .u64 (wrap .i64 (a3_ - a2_)))))) fun r10_ =>
 .l r10_)
 (.l a1_)
noncomputable def wbof (a2_ : Int) (a3_ : Int) (a1_ : Y1) : Option Y1 := (wboe a2_ a3_ a1_).ev
noncomputable def wbzc : RetK := { acts := [], res := [], sh := .nil, obs := [(64, .arr 3 yi)], pins := [(0, 0, 64)] }
noncomputable def wbgq : FD := yd (yj [.arr 64, .dat yi, .dat yi]) [(64, .arr 3 yi)] [.arg 0] Y1 (fun x => wbof x.1.2.1 x.1.2.2.1 x.2.1) (fun r => ([], [(64, .arr 3 yi r)]))
noncomputable def wbgr : Env := wab [(270, waso), (271, wasq)]
noncomputable def wbgs : List (Nat × LD) := [(0, wacw)]
noncomputable def wavo : Code := (f277.body).getD .skip
noncomputable def wbog (a1_ : Y1) (a2_ : Int) (a3_ : Int) (a4_ : Int) : Tr (Int × (Int × Int)) :=
 .g (inR a3_ (length a1_)) <|
 .g (inR a2_ (length a1_)) <|
 .c (Bool) (wgx (getD a1_ (toNat a3_) 0) (getD a1_ (toNat a2_) 0)) fun r1_ =>
 .t r1_
 (.l (a3_, (a2_, (wrap .i64 (a4_ + 1)))))
 (.l (a2_, (a3_, a4_)))
noncomputable def wavp (a1_ : Y1) (a2_ : Int) (a3_ : Int) (a4_ : Int) : Option (Int × (Int × Int)) := (wbog a1_ a2_ a3_ a4_).ev
noncomputable def wbzd : RetK := { acts := [], res := [.tmp 8, .tmp 9], sh := (yj [.dat yi, .dat yi]), obs := [(64, .cells (yj [.dat yi]))], pins := [(3, 0, 64)] }
noncomputable def wbgt : FD := yd (yj [.dat y1, .dat yi, .dat yi, .box 64 0]) [(64, .cells (yj [.dat yi]))] [.arg 3] (Int × (Int × Int)) (fun x => wavp x.1.1 x.1.2.1 x.1.2.2.1 x.2.1.1) (fun r => ([.dat yi r.1, .dat yi r.2.1], [(64, .cells [.dat yi r.2.2])]))
noncomputable def wboh (a1_ : Y1) (a2_ : Int) (a3_ : Int) (a4_ : Int) (a5_ : Int) : Tr (Int × Int) :=
 .c (Int × (Int × Int)) (wavp a1_ a2_ a3_ a5_) fun r1_ =>
 .c (Int × (Int × Int)) (wavp a1_ r1_.2.1 a4_ r1_.2.2) fun r2_ =>
 .c (Int × (Int × Int)) (wavp a1_ r1_.1 r2_.1 r2_.2.2) fun r3_ =>
 .l (r3_.2.1, r3_.2.2)
noncomputable def wavq (a1_ : Y1) (a2_ : Int) (a3_ : Int) (a4_ : Int) (a5_ : Int) : Option (Int × Int) := (wboh a1_ a2_ a3_ a4_ a5_).ev
noncomputable def wbze : RetK := { acts := [], res := [.tmp 10], sh := (yj [.dat yi]), obs := [(64, .cells (yj [.dat yi]))], pins := [(4, 0, 64)] }
noncomputable def wavr : FD := yd (yj [.dat y1, .dat yi, .dat yi, .dat yi, .box 64 0]) [(64, .cells (yj [.dat yi]))] [.arg 4] (Int × (Int)) (fun x => wavq x.1.1 x.1.2.1 x.1.2.2.1 x.1.2.2.2.1 x.2.1.1) (fun r => ([.dat yi r.1], [(64, .cells [.dat yi r.2])]))
noncomputable def wboi (a1_ : Y1) (a2_ : Int) (a3_ : Int) : Tr (Int × Int) :=
 .c (Int × Int) (wavq a1_ (wrap .i64 (a2_ - 1)) a2_ (wrap .i64 (a2_ + 1)) a3_) fun r1_ =>
 .l (r1_.1, r1_.2)
noncomputable def wavs (a1_ : Y1) (a2_ : Int) (a3_ : Int) : Option (Int × Int) := (wboi a1_ a2_ a3_).ev
noncomputable def wbzf : RetK := { acts := [], res := [.tmp 6], sh := (yj [.dat yi]), obs := [(64, .cells (yj [.dat yi]))], pins := [(2, 0, 64)] }
noncomputable def wbgu : FD := yd (yj [.dat y1, .dat yi, .box 64 0]) [(64, .cells (yj [.dat yi]))] [.arg 2] (Int × (Int)) (fun x => wavs x.1.1 x.1.2.1 x.2.1.1) (fun r => ([.dat yi r.1], [(64, .cells [.dat yi r.2])]))
noncomputable def wboj (a1_ : Y1) (a2_ : Int) (a3_ : Int) : Tr (Int × Int) :=
 .g (!decide ((4 : Int) = 0)) <|
 .g (!decide ((4 : Int) = 0)) <|
 .g (!decide ((4 : Int) = 0)) <|
 .t (decide ((8 : Int) ≤ (wrap .i64 (a3_ - a2_))))
 (.t (decide ((50 : Int) ≤ (wrap .i64 (a3_ - a2_))))
 (.c (Int × Int) (wavs a1_ (wrap .i64 (a2_ + (wrap .i64 ((wrap .i64 (Int.tdiv (wrap .i64 (a3_ - a2_)) (4 : Int))) * (1 : Int))))) (0 : Int)) fun r1_ =>
 .c (Int × Int) (wavs a1_ (wrap .i64 (a2_ + (wrap .i64 ((wrap .i64 (Int.tdiv (wrap .i64 (a3_ - a2_)) (4 : Int))) * (2 : Int))))) r1_.2) fun r2_ =>
 .c (Int × Int) (wavs a1_ (wrap .i64 (a2_ + (wrap .i64 ((wrap .i64 (Int.tdiv (wrap .i64 (a3_ - a2_)) (4 : Int))) * (3 : Int))))) r2_.2) fun r3_ =>
 .c (Int × Int) (wavq a1_ r1_.1 r2_.1 r3_.1 r3_.2) fun r4_ =>
 .t (r4_.2 == 0)
 (.l (r4_.1, (1 : Int)))
 (.t (r4_.2 == 12)
 (.l (r4_.1, (2 : Int)))
 (.l (r4_.1, (0 : Int)))))
 (.c (Int × Int) (wavq a1_ (wrap .i64 (a2_ + (wrap .i64 ((wrap .i64 (Int.tdiv (wrap .i64 (a3_ - a2_)) (4 : Int))) * (1 : Int))))) (wrap .i64 (a2_ + (wrap .i64 ((wrap .i64 (Int.tdiv (wrap .i64 (a3_ - a2_)) (4 : Int))) * (2 : Int))))) (wrap .i64 (a2_ + (wrap .i64 ((wrap .i64 (Int.tdiv (wrap .i64 (a3_ - a2_)) (4 : Int))) * (3 : Int))))) (0 : Int)) fun r5_ =>
 .t (r5_.2 == 0)
 (.l (r5_.1, (1 : Int)))
 (.t (r5_.2 == 12)
 (.l (r5_.1, (2 : Int)))
 (.l (r5_.1, (0 : Int))))))
 (.t ((0 : Int) == (0 : Int))
 (.l ((wrap .i64 (a2_ + (wrap .i64 ((wrap .i64 (Int.tdiv (wrap .i64 (a3_ - a2_)) (4 : Int))) * (2 : Int))))), (1 : Int)))
 (.t ((0 : Int) == (12 : Int))
 (.l ((wrap .i64 (a2_ + (wrap .i64 ((wrap .i64 (Int.tdiv (wrap .i64 (a3_ - a2_)) (4 : Int))) * (2 : Int))))), (2 : Int)))
 (.l ((wrap .i64 (a2_ + (wrap .i64 ((wrap .i64 (Int.tdiv (wrap .i64 (a3_ - a2_)) (4 : Int))) * (2 : Int))))), (0 : Int)))))
noncomputable def wbgv (a1_ : Y1) (a2_ : Int) (a3_ : Int) : Option (Int × Int) := (wboj a1_ a2_ a3_).ev
noncomputable def wbzg : RetK := yr [.tmp 6, .tmp 7] (yj [.dat yi, .dat yi])
noncomputable def wbgw : FD := yd (yj [.dat y1, .dat yi, .dat yi]) [] [] (Int × (Int)) (fun x => wbgv x.1.1 x.1.2.1 x.1.2.2.1) (fun r => ([.dat yi r.1, .dat yi r.2], []))
noncomputable def wamm (_k : Unit) (v : Int × (Int × Y1)) : Tr ((Int × (Int × Y1)) ⊕ Y1) :=
 .t (decide (v.1 < v.2.1))
 (.g (inR v.2.1 (length v.2.2)) <|
 .g (decide ((toNat v.2.1) < length v.2.2)) <|
 .g (inR v.1 (length v.2.2)) <|
 .g (decide ((toNat v.1) < length v.2.2)) <|
 .g (inR v.1 (length v.2.2)) <|
 .g (decide ((toNat v.1) < length v.2.2)) <|
 .g (inR v.2.1 (length (set v.2.2 (toNat v.1) (getD v.2.2 (toNat v.2.1) 0)))) <|
 .g (decide ((toNat v.2.1) < length (set v.2.2 (toNat v.1) (getD v.2.2 (toNat v.2.1) 0)))) <|
 .l (.inl ((wrap .i64 (v.1 + 1)), ((wrap .i64 (v.2.1 - 1)), (set (set v.2.2 (toNat v.1) (getD v.2.2 (toNat v.2.1) 0)) (toNat v.2.1) (getD v.2.2 (toNat v.1) 0))))))
 (.l (.inr v.2.2))
noncomputable def wbgx (k : Unit) (v : Int × (Int × Y1)) : Option Y1 := iter (fun v => (wamm k v).ev) v
noncomputable def wacx : LD := ⟨{ acts := [], S := { slots := [0, 6, 7], sh := (yj [.arr 64, .dat yi, .dat yi]), obs := [(64, .arr 3 yi)] } }, [(0, { acts := [], S := { slots := [0], sh := (yj [.arr 64]), obs := [(64, .arr 3 yi)] } })], (yh [] .nil), Unit, Int × (Int × Y1), Y1, fun _ v => (((), (v.1, (v.2.1, ()))), (v.2.2, ())), fun _ => (), fun t => (t.1.2.1, (t.1.2.2.1, t.2.1)), wamm, fun _ r => .l (.exit 0 (wal ({ slots := [0], sh := (yj [.arr 64]), obs := [(64, .arr 3 yi)] }) (((), ()), (r, ()))))⟩
noncomputable def wbok (a2_ : Int) (a3_ : Int) (a1_ : Y1) : Tr Y1 :=
 .c Y1 (wbgx () (a2_, ((wrap .i64 (a3_ - 1)), a1_))) fun r5_ =>
 .l r5_
noncomputable def wbgy (a2_ : Int) (a3_ : Int) (a1_ : Y1) : Option Y1 := (wbok a2_ a3_ a1_).ev
noncomputable def wbzh : RetK := { acts := [], res := [], sh := .nil, obs := [(64, .arr 3 yi)], pins := [(0, 0, 64)] }
noncomputable def wbgz : FD := yd (yj [.arr 64, .dat yi, .dat yi]) [(64, .arr 3 yi)] [.arg 0] Y1 (fun x => wbgy x.1.2.1 x.1.2.2.1 x.2.1) (fun r => ([], [(64, .arr 3 yi r)]))
noncomputable def wbha : Env := wab []
noncomputable def wbhb : List (Nat × LD) := [(0, wacx)]
noncomputable def wavt : Code := (f279.body).getD .skip
noncomputable def wamn (k : Int × (Int × (Int × Y1))) (v : Int) : Tr ((Int) ⊕ (Int)) :=
 .t (decide (v < k.2.1))
 (.g (inR v (length k.2.2.2)) <|
 .g (decide ((toNat v) < length k.2.2.2)) <|
 .g (inR (wrap .i64 (v - 1)) (length k.2.2.2)) <|
 .g (decide ((toNat (wrap .i64 (v - 1))) < length k.2.2.2)) <|
 .c (Bool) (wgx (getD k.2.2.2 (toNat v) 0) (getD k.2.2.2 (toNat (wrap .i64 (v - 1))) (0 : Int))) fun r11_ =>
 .t (!r11_)
 (.l (.inl (wrap .i64 (v + 1))))
 (.l (.inr v)))
 (.l (.inr v))
noncomputable def wbhc (k : Int × (Int × (Int × Y1))) (v : Int) : Option (Int) := iter (fun v => (wamn k v).ev) v
noncomputable def wacy : LD := ⟨{ acts := [], S := { slots := [0, 1, 2, 7, 8], sh := (yj [.arr 64, .dat yi, .dat yi, .dat yi, .dat yi]), obs := [(64, .arr 3 yi)] } }, [(2, { acts := [], S := { slots := [0, 1, 2, 7, 8], sh := (yj [.arr 64, .dat yi, .dat yi, .dat yi, .dat yi]), obs := [(64, .arr 3 yi)] } })], (yh [] .nil), Int × (Int × (Int × Y1)), Int, Int, fun k v => (((), (k.1, (k.2.1, (v, (k.2.2.1, ()))))), (k.2.2.2, ())), fun t => (t.1.2.1, (t.1.2.2.1, (t.1.2.2.2.2.1, t.2.1))), fun t => t.1.2.2.2.1, wamn, fun k r => .l (.exit 2 (wal ({ slots := [0, 1, 2, 7, 8], sh := (yj [.arr 64, .dat yi, .dat yi, .dat yi, .dat yi]), obs := [(64, .arr 3 yi)] }) (((), (k.1, (k.2.1, (r, (k.2.2.1, ()))))), (k.2.2.2, ()))))⟩
noncomputable def wamo (_k : Int × (Int × (Int × Int))) (v : Int × Y1) : Tr ((Int × Y1) ⊕ Y1) :=
 .t (decide (1 ≤ v.1))
 (.g (inR v.1 (length v.2)) <|
 .g (decide ((toNat v.1) < length v.2)) <|
 .g (inR (wrap .i64 (v.1 - 1)) (length v.2)) <|
 .g (decide ((toNat (wrap .i64 (v.1 - 1))) < length v.2)) <|
 .c (Bool) (wgx (getD v.2 (toNat v.1) 0) (getD v.2 (toNat (wrap .i64 (v.1 - 1))) (0 : Int))) fun r24_ =>
 .t (!r24_)
 (.l (.inr v.2))
 (.g (inR (wrap .i64 (v.1 - 1)) (length v.2)) <|
 .g (decide ((toNat (wrap .i64 (v.1 - 1))) < length v.2)) <|
 .g (inR v.1 (length v.2)) <|
 .g (decide ((toNat v.1) < length v.2)) <|
 .g (inR v.1 (length v.2)) <|
 .g (decide ((toNat v.1) < length v.2)) <|
 .g (inR (wrap .i64 (v.1 - 1)) (length (set v.2 (toNat v.1) (getD v.2 (toNat (wrap .i64 (v.1 - 1))) (0 : Int))))) <|
 .g (decide ((toNat (wrap .i64 (v.1 - 1))) < length (set v.2 (toNat v.1) (getD v.2 (toNat (wrap .i64 (v.1 - 1))) (0 : Int))))) <|
 .l (.inl ((wrap .i64 (v.1 - 1)), (set (set v.2 (toNat v.1) (getD v.2 (toNat (wrap .i64 (v.1 - 1))) (0 : Int))) (toNat (wrap .i64 (v.1 - 1))) (getD v.2 (toNat v.1) 0))))))
 (.l (.inr v.2))
noncomputable def wbhd (k : Int × (Int × (Int × Int))) (v : Int × Y1) : Option Y1 := iter (fun v => (wamo k v).ev) v
noncomputable def wacz : LD := ⟨{ acts := [], S := { slots := [0, 1, 2, 7, 8, 9], sh := (yj [.arr 64, .dat yi, .dat yi, .dat yi, .dat yi, .dat yi]), obs := [(64, .arr 3 yi)] } }, [(4, { acts := [], S := { slots := [0, 1, 2, 7, 8], sh := (yj [.arr 64, .dat yi, .dat yi, .dat yi, .dat yi]), obs := [(64, .arr 3 yi)] } })], (yh [] .nil), Int × (Int × (Int × Int)), Int × Y1, Y1, fun k v => (((), (k.1, (k.2.1, (k.2.2.1, (k.2.2.2, (v.1, ())))))), (v.2, ())), fun t => (t.1.2.1, (t.1.2.2.1, (t.1.2.2.2.1, t.1.2.2.2.2.1))), fun t => (t.1.2.2.2.2.2.1, t.2.1), wamo, fun k r => .l (.exit 4 (wal ({ slots := [0, 1, 2, 7, 8], sh := (yj [.arr 64, .dat yi, .dat yi, .dat yi, .dat yi]), obs := [(64, .arr 3 yi)] }) (((), (k.1, (k.2.1, (k.2.2.1, (k.2.2.2, ()))))), (r, ()))))⟩
noncomputable def wamp (k : Int × (Int × (Int × Int))) (v : Int × Y1) : Tr ((Int × Y1) ⊕ Y1) :=
 .t (decide (v.1 < k.2.1))
 (.g (inR v.1 (length v.2)) <|
 .g (decide ((toNat v.1) < length v.2)) <|
 .g (inR (wrap .i64 (v.1 - 1)) (length v.2)) <|
 .g (decide ((toNat (wrap .i64 (v.1 - 1))) < length v.2)) <|
 .c (Bool) (wgx (getD v.2 (toNat v.1) 0) (getD v.2 (toNat (wrap .i64 (v.1 - 1))) (0 : Int))) fun r37_ =>
 .t (!r37_)
 (.l (.inr v.2))
 (.g (inR (wrap .i64 (v.1 - 1)) (length v.2)) <|
 .g (decide ((toNat (wrap .i64 (v.1 - 1))) < length v.2)) <|
 .g (inR v.1 (length v.2)) <|
 .g (decide ((toNat v.1) < length v.2)) <|
 .g (inR v.1 (length v.2)) <|
 .g (decide ((toNat v.1) < length v.2)) <|
 .g (inR (wrap .i64 (v.1 - 1)) (length (set v.2 (toNat v.1) (getD v.2 (toNat (wrap .i64 (v.1 - 1))) (0 : Int))))) <|
 .g (decide ((toNat (wrap .i64 (v.1 - 1))) < length (set v.2 (toNat v.1) (getD v.2 (toNat (wrap .i64 (v.1 - 1))) (0 : Int))))) <|
 .l (.inl ((wrap .i64 (v.1 + 1)), (set (set v.2 (toNat v.1) (getD v.2 (toNat (wrap .i64 (v.1 - 1))) (0 : Int))) (toNat (wrap .i64 (v.1 - 1))) (getD v.2 (toNat v.1) 0))))))
 (.l (.inr v.2))
noncomputable def wamq (k : Int × (Int × (Int × Int))) (v : Int × Y1) : Option Y1 := iter (fun v => (wamp k v).ev) v
noncomputable def wada : LD := ⟨{ acts := [], S := { slots := [0, 1, 2, 7, 8, 10], sh := (yj [.arr 64, .dat yi, .dat yi, .dat yi, .dat yi, .dat yi]), obs := [(64, .arr 3 yi)] } }, [(6, { acts := [], S := { slots := [0, 1, 2, 7, 8], sh := (yj [.arr 64, .dat yi, .dat yi, .dat yi, .dat yi]), obs := [(64, .arr 3 yi)] } })], (yh [] .nil), Int × (Int × (Int × Int)), Int × Y1, Y1, fun k v => (((), (k.1, (k.2.1, (k.2.2.1, (k.2.2.2, (v.1, ())))))), (v.2, ())), fun t => (t.1.2.1, (t.1.2.2.1, (t.1.2.2.2.1, t.1.2.2.2.2.1))), fun t => (t.1.2.2.2.2.2.1, t.2.1), wamp, fun k r => .l (.exit 6 (wal ({ slots := [0, 1, 2, 7, 8], sh := (yj [.arr 64, .dat yi, .dat yi, .dat yi, .dat yi]), obs := [(64, .arr 3 yi)] }) (((), (k.1, (k.2.1, (k.2.2.1, (k.2.2.2, ()))))), (r, ()))))⟩
noncomputable def wamr (k : Int × Int) (v : Int × (Int × Y1)) : Tr ((Int × (Int × Y1)) ⊕ (Y1 ⊕ (Bool × Y1))) :=
 .t (decide (v.2.1 < 5))
 (.c (Int) (wbhc (k.1, (k.2, (v.2.1, v.2.2))) v.1) fun r17_ =>
 .t (r17_ == k.2)
 (.l (.inr (.inr (true, v.2.2))))
 (.t (decide ((wrap .i64 (k.2 - k.1)) < (50 : Int)))
 (.l (.inr (.inr (false, v.2.2))))
 (.g (inR (wrap .i64 (r17_ - 1)) (length v.2.2)) <|
 .g (decide ((toNat (wrap .i64 (r17_ - 1))) < length v.2.2)) <|
 .g (inR r17_ (length v.2.2)) <|
 .g (decide ((toNat r17_) < length v.2.2)) <|
 .g (inR r17_ (length v.2.2)) <|
 .g (decide ((toNat r17_) < length v.2.2)) <|
 .g (inR (wrap .i64 (r17_ - 1)) (length (set v.2.2 (toNat r17_) (getD v.2.2 (toNat (wrap .i64 (r17_ - 1))) (0 : Int))))) <|
 .g (decide ((toNat (wrap .i64 (r17_ - 1))) < length (set v.2.2 (toNat r17_) (getD v.2.2 (toNat (wrap .i64 (r17_ - 1))) (0 : Int))))) <|
 .t (decide ((2 : Int) ≤ (wrap .i64 (r17_ - k.1))))
 (.c Y1 (wbhd (k.1, (k.2, (r17_, v.2.1))) ((wrap .i64 (r17_ - 1)), (set (set v.2.2 (toNat r17_) (getD v.2.2 (toNat (wrap .i64 (r17_ - 1))) (0 : Int))) (toNat (wrap .i64 (r17_ - 1))) (getD v.2.2 (toNat r17_) 0)))) fun r30_ =>
 .t (decide ((2 : Int) ≤ (wrap .i64 (k.2 - r17_))))
 (.c Y1 (wamq (k.1, (k.2, (r17_, v.2.1))) ((wrap .i64 (r17_ + 1)), r30_)) fun r43_ =>
 .l (.inl (r17_, ((wrap .i64 (v.2.1 + 1)), r43_))))
 (.l (.inl (r17_, ((wrap .i64 (v.2.1 + 1)), r30_)))))
 (.t (decide ((2 : Int) ≤ (wrap .i64 (k.2 - r17_))))
 (.c Y1 (wamq (k.1, (k.2, (r17_, v.2.1))) ((wrap .i64 (r17_ + 1)), (set (set v.2.2 (toNat r17_) (getD v.2.2 (toNat (wrap .i64 (r17_ - 1))) (0 : Int))) (toNat (wrap .i64 (r17_ - 1))) (getD v.2.2 (toNat r17_) 0)))) fun r44_ =>
 .l (.inl (r17_, ((wrap .i64 (v.2.1 + 1)), r44_))))
 (.l (.inl (r17_, ((wrap .i64 (v.2.1 + 1)), (set (set v.2.2 (toNat r17_) (getD v.2.2 (toNat (wrap .i64 (r17_ - 1))) (0 : Int))) (toNat (wrap .i64 (r17_ - 1))) (getD v.2.2 (toNat r17_) 0))))))))))
 (.l (.inr (.inl v.2.2)))
noncomputable def wbhe (k : Int × Int) (v : Int × (Int × Y1)) : Option (Y1 ⊕ (Bool × Y1)) := iter (fun v => (wamr k v).ev) v
noncomputable def wadb : LD := ⟨{ acts := [], S := { slots := [0, 1, 2, 7, 8], sh := (yj [.arr 64, .dat yi, .dat yi, .dat yi, .dat yi]), obs := [(64, .arr 3 yi)] } }, [(0, { acts := [], S := { slots := [0], sh := (yj [.arr 64]), obs := [(64, .arr 3 yi)] } })], { acts := [], S := { slots := [0, 6], sh := (yj [.arr 64, .dat .bool]), obs := [(64, .arr 3 yi)] } }, Int × (Int), Int × (Int × Y1), Y1 ⊕ (Bool × Y1), fun k v => (((), (k.1, (k.2, (v.1, (v.2.1, ()))))), (v.2.2, ())), fun t => (t.1.2.1, t.1.2.2.1), fun t => (t.1.2.2.2.1, (t.1.2.2.2.2.1, t.2.1)), wamr, fun _ r => .s Y1 (Bool × Y1) r (fun a => .l (.exit 0 (wal ({ slots := [0], sh := (yj [.arr 64]), obs := [(64, .arr 3 yi)] }) (((), ()), (a, ()))))) (fun b => .l (.ret (wal ({ slots := [0, 6], sh := (yj [.arr 64, .dat .bool]), obs := [(64, .arr 3 yi)] }) (((), (b.1, ())), (b.2, ())))))⟩
noncomputable def wbol (a2_ : Int) (a3_ : Int) (a1_ : Y1) : Tr (Bool × Y1) :=
 .c (Y1 ⊕ (Bool × Y1)) (wbhe (a2_, a3_) ((wrap .i64 (a2_ + 1)), ((0 : Int), a1_))) fun r48_ =>
 .s Y1 (Bool × Y1) r48_
 (fun r49_ => .l (false, r49_))
 (fun r50_ => .l (r50_.1, r50_.2))
noncomputable def wams (a2_ : Int) (a3_ : Int) (a1_ : Y1) : Option (Bool × Y1) := (wbol a2_ a3_ a1_).ev
noncomputable def wbzi : RetK := { acts := [], res := [.tmp 6], sh := (yj [.dat .bool]), obs := [(64, .arr 3 yi)], pins := [(0, 0, 64)] }
noncomputable def wbhf : FD := yd (yj [.arr 64, .dat yi, .dat yi]) [(64, .arr 3 yi)] [.arg 0] (Bool × Y1) (fun x => wams x.1.2.1 x.1.2.2.1 x.2.1) (fun r => ([.dat .bool r.1], [(64, .arr 3 yi r.2)]))
noncomputable def wagc : Env := wab [(281, D_zb)]
noncomputable def wagd : List (Nat × LD) := [(2, wacy), (4, wacz), (6, wada), (0, wadb)]
noncomputable def woy : Code := (f280.body).getD .skip
noncomputable def wamt (k : Int × (Int × Y1)) (v : Int) : Tr ((Int) ⊕ (Int)) :=
 .t (decide (v ≤ k.2.1))
 (.g (inR k.1 (length k.2.2)) <|
 .g (decide ((toNat k.1) < length k.2.2)) <|
 .g (inR v (length k.2.2)) <|
 .g (decide ((toNat v) < length k.2.2)) <|
 .c (Bool) (wgx (getD k.2.2 (toNat k.1) 0) (getD k.2.2 (toNat v) 0)) fun r9_ =>
 .t (!r9_)
 (.l (.inl (wrap .i64 (v + 1))))
 (.l (.inr v)))
 (.l (.inr v))
noncomputable def wbhg (k : Int × (Int × Y1)) (v : Int) : Option (Int) := iter (fun v => (wamt k v).ev) v
noncomputable def wadc : LD := ⟨{ acts := [], S := { slots := [0, 1, 9, 10], sh := (yj [.arr 64, .dat yi, .dat yi, .dat yi]), obs := [(64, .arr 3 yi)] } }, [(2, { acts := [], S := { slots := [0, 1, 9, 10], sh := (yj [.arr 64, .dat yi, .dat yi, .dat yi]), obs := [(64, .arr 3 yi)] } })], (yh [] .nil), Int × (Int × Y1), Int, Int, fun k v => (((), (k.1, (v, (k.2.1, ())))), (k.2.2, ())), fun t => (t.1.2.1, (t.1.2.2.2.1, t.2.1)), fun t => t.1.2.2.1, wamt, fun k r => .l (.exit 2 (wal ({ slots := [0, 1, 9, 10], sh := (yj [.arr 64, .dat yi, .dat yi, .dat yi]), obs := [(64, .arr 3 yi)] }) (((), (k.1, (r, (k.2.1, ())))), (k.2.2, ()))))⟩
noncomputable def wamu (k : Int × (Int × Y1)) (v : Int) : Tr ((Int) ⊕ (Int)) :=
 .t (decide (k.2.1 ≤ v))
 (.g (inR k.1 (length k.2.2)) <|
 .g (decide ((toNat k.1) < length k.2.2)) <|
 .g (inR v (length k.2.2)) <|
 .g (decide ((toNat v) < length k.2.2)) <|
 .c (Bool) (wgx (getD k.2.2 (toNat k.1) 0) (getD k.2.2 (toNat v) 0)) fun r19_ =>
 .t r19_
 (.l (.inl (wrap .i64 (v - 1))))
 (.l (.inr v)))
 (.l (.inr v))
noncomputable def wbhh (k : Int × (Int × Y1)) (v : Int) : Option (Int) := iter (fun v => (wamu k v).ev) v
noncomputable def wadd : LD := ⟨{ acts := [], S := { slots := [0, 1, 9, 10], sh := (yj [.arr 64, .dat yi, .dat yi, .dat yi]), obs := [(64, .arr 3 yi)] } }, [(4, { acts := [], S := { slots := [0, 1, 9, 10], sh := (yj [.arr 64, .dat yi, .dat yi, .dat yi]), obs := [(64, .arr 3 yi)] } })], (yh [] .nil), Int × (Int × Y1), Int, Int, fun k v => (((), (k.1, (k.2.1, (v, ())))), (k.2.2, ())), fun t => (t.1.2.1, (t.1.2.2.1, t.2.1)), fun t => t.1.2.2.2.1, wamu, fun k r => .l (.exit 4 (wal ({ slots := [0, 1, 9, 10], sh := (yj [.arr 64, .dat yi, .dat yi, .dat yi]), obs := [(64, .arr 3 yi)] }) (((), (k.1, (k.2.1, (r, ())))), (k.2.2, ()))))⟩
noncomputable def wamv (k : Int) (v : Int × (Int × Y1)) : Tr ((Int × (Int × Y1)) ⊕ (Int × Y1)) :=
 .c (Int) (wbhg (k, (v.2.1, v.2.2)) v.1) fun r14_ =>
 .c (Int) (wbhh (k, (r14_, v.2.2)) v.2.1) fun r24_ =>
 .t (decide (r24_ < r14_))
 (.l (.inr (r14_, v.2.2)))
 (.g (inR r24_ (length v.2.2)) <|
 .g (decide ((toNat r24_) < length v.2.2)) <|
 .g (inR r14_ (length v.2.2)) <|
 .g (decide ((toNat r14_) < length v.2.2)) <|
 .g (inR r14_ (length v.2.2)) <|
 .g (decide ((toNat r14_) < length v.2.2)) <|
 .g (inR r24_ (length (set v.2.2 (toNat r14_) (getD v.2.2 (toNat r24_) 0)))) <|
 .g (decide ((toNat r24_) < length (set v.2.2 (toNat r14_) (getD v.2.2 (toNat r24_) 0)))) <|
 .l (.inl ((wrap .i64 (r14_ + 1)), ((wrap .i64 (r24_ - 1)), (set (set v.2.2 (toNat r14_) (getD v.2.2 (toNat r24_) 0)) (toNat r24_) (getD v.2.2 (toNat r14_) 0))))))
noncomputable def wbhi (k : Int) (v : Int × (Int × Y1)) : Option (Int × Y1) := iter (fun v => (wamv k v).ev) v
noncomputable def wade : LD := ⟨{ acts := [], S := { slots := [0, 1, 9, 10], sh := (yj [.arr 64, .dat yi, .dat yi, .dat yi]), obs := [(64, .arr 3 yi)] } }, [(0, { acts := [], S := { slots := [0, 9], sh := (yj [.arr 64, .dat yi]), obs := [(64, .arr 3 yi)] } })], (yh [] .nil), Int, Int × (Int × Y1), Int × Y1, fun k v => (((), (k, (v.1, (v.2.1, ())))), (v.2.2, ())), fun t => t.1.2.1, fun t => (t.1.2.2.1, (t.1.2.2.2.1, t.2.1)), wamv, fun _ r => .l (.exit 0 (wal ({ slots := [0, 9], sh := (yj [.arr 64, .dat yi]), obs := [(64, .arr 3 yi)] }) (((), (r.1, ())), (r.2, ()))))⟩
noncomputable def wbom (a2_ : Int) (a3_ : Int) (a4_ : Int) (a1_ : Y1) : Tr (Int × Y1) :=
 .g (inR a4_ (length a1_)) <|
 .g (decide ((toNat a4_) < length a1_)) <|
 .g (inR a2_ (length a1_)) <|
 .g (decide ((toNat a2_) < length a1_)) <|
 .g (inR a2_ (length a1_)) <|
 .g (decide ((toNat a2_) < length a1_)) <|
 .g (inR a4_ (length (set a1_ (toNat a2_) (getD a1_ (toNat a4_) 0)))) <|
 .g (decide ((toNat a4_) < length (set a1_ (toNat a2_) (getD a1_ (toNat a4_) 0)))) <|
 .c (Int × Y1) (wbhi a2_ ((wrap .i64 (a2_ + 1)), ((wrap .i64 (a3_ - 1)), (set (set a1_ (toNat a2_) (getD a1_ (toNat a4_) 0)) (toNat a4_) (getD a1_ (toNat a2_) 0))))) fun r27_ =>
 .l (r27_.1, r27_.2)
noncomputable def wgn (a2_ : Int) (a3_ : Int) (a4_ : Int) (a1_ : Y1) : Option (Int × Y1) := (wbom a2_ a3_ a4_ a1_).ev
noncomputable def wbzj : RetK := { acts := [], res := [.tmp 8], sh := (yj [.dat yi]), obs := [(64, .arr 3 yi)], pins := [(0, 0, 64)] }
noncomputable def wbhj : FD := yd (yj [.arr 64, .dat yi, .dat yi, .dat yi]) [(64, .arr 3 yi)] [.arg 0] (Int × Y1) (fun x => wgn x.1.2.1 x.1.2.2.1 x.1.2.2.2.1 x.2.1) (fun r => ([.dat yi r.1], [(64, .arr 3 yi r.2)]))
noncomputable def wamw : Env := wab [(281, D_zb)]
noncomputable def wamx : List (Nat × LD) := [(2, wadc), (4, wadd), (0, wade)]
noncomputable def wvf : Code := (f282.body).getD .skip
noncomputable def wamy (k : Int × (Int × Y1)) (v : Int) : Tr ((Int) ⊕ (Int)) :=
 .t (decide (v ≤ k.2.1))
 (.g (inR v (length k.2.2)) <|
 .g (decide ((toNat v) < length k.2.2)) <|
 .g (inR k.1 (length k.2.2)) <|
 .g (decide ((toNat k.1) < length k.2.2)) <|
 .c (Bool) (wgx (getD k.2.2 (toNat v) 0) (getD k.2.2 (toNat k.1) 0)) fun r5_ =>
 .t r5_
 (.l (.inl (wrap .i64 (v + 1))))
 (.l (.inr v)))
 (.l (.inr v))
noncomputable def wbhk (k : Int × (Int × Y1)) (v : Int) : Option (Int) := iter (fun v => (wamy k v).ev) v
noncomputable def wadf : LD := ⟨{ acts := [], S := { slots := [0, 1, 10, 11], sh := (yj [.arr 64, .dat yi, .dat yi, .dat yi]), obs := [(64, .arr 3 yi)] } }, [(0, { acts := [], S := { slots := [0, 1, 10, 11], sh := (yj [.arr 64, .dat yi, .dat yi, .dat yi]), obs := [(64, .arr 3 yi)] } })], (yh [] .nil), Int × (Int × Y1), Int, Int, fun k v => (((), (k.1, (v, (k.2.1, ())))), (k.2.2, ())), fun t => (t.1.2.1, (t.1.2.2.2.1, t.2.1)), fun t => t.1.2.2.1, wamy, fun k r => .l (.exit 0 (wal ({ slots := [0, 1, 10, 11], sh := (yj [.arr 64, .dat yi, .dat yi, .dat yi]), obs := [(64, .arr 3 yi)] }) (((), (k.1, (r, (k.2.1, ())))), (k.2.2, ()))))⟩
noncomputable def wamz (k : Int × (Int × Y1)) (v : Int) : Tr ((Int) ⊕ (Int)) :=
 .t (decide (k.2.1 ≤ v))
 (.g (inR v (length k.2.2)) <|
 .g (decide ((toNat v) < length k.2.2)) <|
 .g (inR k.1 (length k.2.2)) <|
 .g (decide ((toNat k.1) < length k.2.2)) <|
 .c (Bool) (wgx (getD k.2.2 (toNat v) 0) (getD k.2.2 (toNat k.1) 0)) fun r15_ =>
 .t (!r15_)
 (.l (.inl (wrap .i64 (v - 1))))
 (.l (.inr v)))
 (.l (.inr v))
noncomputable def wbhl (k : Int × (Int × Y1)) (v : Int) : Option (Int) := iter (fun v => (wamz k v).ev) v
noncomputable def wadg : LD := ⟨{ acts := [], S := { slots := [0, 1, 10, 11], sh := (yj [.arr 64, .dat yi, .dat yi, .dat yi]), obs := [(64, .arr 3 yi)] } }, [(2, { acts := [], S := { slots := [0, 1, 10, 11], sh := (yj [.arr 64, .dat yi, .dat yi, .dat yi]), obs := [(64, .arr 3 yi)] } })], (yh [] .nil), Int × (Int × Y1), Int, Int, fun k v => (((), (k.1, (k.2.1, (v, ())))), (k.2.2, ())), fun t => (t.1.2.1, (t.1.2.2.1, t.2.1)), fun t => t.1.2.2.2.1, wamz, fun k r => .l (.exit 2 (wal ({ slots := [0, 1, 10, 11], sh := (yj [.arr 64, .dat yi, .dat yi, .dat yi]), obs := [(64, .arr 3 yi)] }) (((), (k.1, (k.2.1, (r, ())))), (k.2.2, ()))))⟩
noncomputable def wana (k : Int × (Int × Y1)) (v : Int) : Tr ((Int) ⊕ (Int)) :=
 .t (decide (v ≤ k.2.1))
 (.g (inR v (length k.2.2)) <|
 .g (decide ((toNat v) < length k.2.2)) <|
 .g (inR k.1 (length k.2.2)) <|
 .g (decide ((toNat k.1) < length k.2.2)) <|
 .c (Bool) (wgx (getD k.2.2 (toNat v) 0) (getD k.2.2 (toNat k.1) 0)) fun r29_ =>
 .t r29_
 (.l (.inl (wrap .i64 (v + 1))))
 (.l (.inr v)))
 (.l (.inr v))
noncomputable def wbhm (k : Int × (Int × Y1)) (v : Int) : Option (Int) := iter (fun v => (wana k v).ev) v
noncomputable def wadh : LD := ⟨{ acts := [], S := { slots := [0, 1, 10, 11], sh := (yj [.arr 64, .dat yi, .dat yi, .dat yi]), obs := [(64, .arr 3 yi)] } }, [(6, { acts := [], S := { slots := [0, 1, 10, 11], sh := (yj [.arr 64, .dat yi, .dat yi, .dat yi]), obs := [(64, .arr 3 yi)] } })], (yh [] .nil), Int × (Int × Y1), Int, Int, fun k v => (((), (k.1, (v, (k.2.1, ())))), (k.2.2, ())), fun t => (t.1.2.1, (t.1.2.2.2.1, t.2.1)), fun t => t.1.2.2.1, wana, fun k r => .l (.exit 6 (wal ({ slots := [0, 1, 10, 11], sh := (yj [.arr 64, .dat yi, .dat yi, .dat yi]), obs := [(64, .arr 3 yi)] }) (((), (k.1, (r, (k.2.1, ())))), (k.2.2, ()))))⟩
noncomputable def wanb (k : Int × (Int × Y1)) (v : Int) : Tr ((Int) ⊕ (Int)) :=
 .t (decide (k.2.1 ≤ v))
 (.g (inR v (length k.2.2)) <|
 .g (decide ((toNat v) < length k.2.2)) <|
 .g (inR k.1 (length k.2.2)) <|
 .g (decide ((toNat k.1) < length k.2.2)) <|
 .c (Bool) (wgx (getD k.2.2 (toNat v) 0) (getD k.2.2 (toNat k.1) 0)) fun r39_ =>
 .t (!r39_)
 (.l (.inl (wrap .i64 (v - 1))))
 (.l (.inr v)))
 (.l (.inr v))
noncomputable def wbhn (k : Int × (Int × Y1)) (v : Int) : Option (Int) := iter (fun v => (wanb k v).ev) v
noncomputable def wadi : LD := ⟨{ acts := [], S := { slots := [0, 1, 10, 11], sh := (yj [.arr 64, .dat yi, .dat yi, .dat yi]), obs := [(64, .arr 3 yi)] } }, [(8, { acts := [], S := { slots := [0, 1, 10, 11], sh := (yj [.arr 64, .dat yi, .dat yi, .dat yi]), obs := [(64, .arr 3 yi)] } })], (yh [] .nil), Int × (Int × Y1), Int, Int, fun k v => (((), (k.1, (k.2.1, (v, ())))), (k.2.2, ())), fun t => (t.1.2.1, (t.1.2.2.1, t.2.1)), fun t => t.1.2.2.2.1, wanb, fun k r => .l (.exit 8 (wal ({ slots := [0, 1, 10, 11], sh := (yj [.arr 64, .dat yi, .dat yi, .dat yi]), obs := [(64, .arr 3 yi)] }) (((), (k.1, (k.2.1, (r, ())))), (k.2.2, ()))))⟩
noncomputable def wanc (k : Int) (v : Int × (Int × Y1)) : Tr ((Int × (Int × Y1)) ⊕ (Int × Y1)) :=
 .c (Int) (wbhm (k, (v.2.1, v.2.2)) v.1) fun r34_ =>
 .c (Int) (wbhn (k, (r34_, v.2.2)) v.2.1) fun r44_ =>
 .t (decide (r44_ < r34_))
 (.l (.inr (r44_, v.2.2)))
 (.g (inR r44_ (length v.2.2)) <|
 .g (decide ((toNat r44_) < length v.2.2)) <|
 .g (inR r34_ (length v.2.2)) <|
 .g (decide ((toNat r34_) < length v.2.2)) <|
 .g (inR r34_ (length v.2.2)) <|
 .g (decide ((toNat r34_) < length v.2.2)) <|
 .g (inR r44_ (length (set v.2.2 (toNat r34_) (getD v.2.2 (toNat r44_) 0)))) <|
 .g (decide ((toNat r44_) < length (set v.2.2 (toNat r34_) (getD v.2.2 (toNat r44_) 0)))) <|
 .l (.inl ((wrap .i64 (r34_ + 1)), ((wrap .i64 (r44_ - 1)), (set (set v.2.2 (toNat r34_) (getD v.2.2 (toNat r44_) 0)) (toNat r44_) (getD v.2.2 (toNat r34_) 0))))))
noncomputable def wbho (k : Int) (v : Int × (Int × Y1)) : Option (Int × Y1) := iter (fun v => (wanc k v).ev) v
noncomputable def wadj : LD := ⟨{ acts := [], S := { slots := [0, 1, 10, 11], sh := (yj [.arr 64, .dat yi, .dat yi, .dat yi]), obs := [(64, .arr 3 yi)] } }, [(4, { acts := [], S := { slots := [0, 1, 11], sh := (yj [.arr 64, .dat yi, .dat yi]), obs := [(64, .arr 3 yi)] } })], (yh [] .nil), Int, Int × (Int × Y1), Int × Y1, fun k v => (((), (k, (v.1, (v.2.1, ())))), (v.2.2, ())), fun t => t.1.2.1, fun t => (t.1.2.2.1, (t.1.2.2.2.1, t.2.1)), wanc, fun k r => .l (.exit 4 (wal ({ slots := [0, 1, 11], sh := (yj [.arr 64, .dat yi, .dat yi]), obs := [(64, .arr 3 yi)] }) (((), (k, (r.1, ()))), (r.2, ()))))⟩
noncomputable def wbon (a2_ : Int) (a3_ : Int) (a4_ : Int) (a1_ : Y1) : Tr (Int × (Bool × Y1)) :=
 .g (inR a4_ (length a1_)) <|
 .g (decide ((toNat a4_) < length a1_)) <|
 .g (inR a2_ (length a1_)) <|
 .g (decide ((toNat a2_) < length a1_)) <|
 .g (inR a2_ (length a1_)) <|
 .g (decide ((toNat a2_) < length a1_)) <|
 .g (inR a4_ (length (set a1_ (toNat a2_) (getD a1_ (toNat a4_) 0)))) <|
 .g (decide ((toNat a4_) < length (set a1_ (toNat a2_) (getD a1_ (toNat a4_) 0)))) <|
 .c (Int) (wbhk (a2_, ((wrap .i64 (a3_ - 1)), (set (set a1_ (toNat a2_) (getD a1_ (toNat a4_) 0)) (toNat a4_) (getD a1_ (toNat a2_) 0)))) (wrap .i64 (a2_ + 1))) fun r10_ =>
 .c (Int) (wbhl (a2_, (r10_, (set (set a1_ (toNat a2_) (getD a1_ (toNat a4_) 0)) (toNat a4_) (getD a1_ (toNat a2_) 0)))) (wrap .i64 (a3_ - 1))) fun r20_ =>
 .t (decide (r20_ < r10_))
 (.g (inR a2_ (length (set (set a1_ (toNat a2_) (getD a1_ (toNat a4_) 0)) (toNat a4_) (getD a1_ (toNat a2_) 0)))) <|
 .g (decide ((toNat a2_) < length (set (set a1_ (toNat a2_) (getD a1_ (toNat a4_) 0)) (toNat a4_) (getD a1_ (toNat a2_) 0)))) <|
 .g (inR r20_ (length (set (set a1_ (toNat a2_) (getD a1_ (toNat a4_) 0)) (toNat a4_) (getD a1_ (toNat a2_) 0)))) <|
 .g (decide ((toNat r20_) < length (set (set a1_ (toNat a2_) (getD a1_ (toNat a4_) 0)) (toNat a4_) (getD a1_ (toNat a2_) 0)))) <|
 .g (inR r20_ (length (set (set a1_ (toNat a2_) (getD a1_ (toNat a4_) 0)) (toNat a4_) (getD a1_ (toNat a2_) 0)))) <|
 .g (decide ((toNat r20_) < length (set (set a1_ (toNat a2_) (getD a1_ (toNat a4_) 0)) (toNat a4_) (getD a1_ (toNat a2_) 0)))) <|
 .g (inR a2_ (length (set (set (set a1_ (toNat a2_) (getD a1_ (toNat a4_) 0)) (toNat a4_) (getD a1_ (toNat a2_) 0)) (toNat r20_) (getD (set (set a1_ (toNat a2_) (getD a1_ (toNat a4_) 0)) (toNat a4_) (getD a1_ (toNat a2_) 0)) (toNat a2_) (0 : Int))))) <|
 .g (decide ((toNat a2_) < length (set (set (set a1_ (toNat a2_) (getD a1_ (toNat a4_) 0)) (toNat a4_) (getD a1_ (toNat a2_) 0)) (toNat r20_) (getD (set (set a1_ (toNat a2_) (getD a1_ (toNat a4_) 0)) (toNat a4_) (getD a1_ (toNat a2_) 0)) (toNat a2_) (0 : Int))))) <|
 .l (r20_, (true, (set (set (set (set a1_ (toNat a2_) (getD a1_ (toNat a4_) 0)) (toNat a4_) (getD a1_ (toNat a2_) 0)) (toNat r20_) (getD (set (set a1_ (toNat a2_) (getD a1_ (toNat a4_) 0)) (toNat a4_) (getD a1_ (toNat a2_) 0)) (toNat a2_) (0 : Int))) (toNat a2_) (getD (set (set a1_ (toNat a2_) (getD a1_ (toNat a4_) 0)) (toNat a4_) (getD a1_ (toNat a2_) 0)) (toNat r20_) (0 : Int))))))
 (.g (inR r20_ (length (set (set a1_ (toNat a2_) (getD a1_ (toNat a4_) 0)) (toNat a4_) (getD a1_ (toNat a2_) 0)))) <|
 .g (decide ((toNat r20_) < length (set (set a1_ (toNat a2_) (getD a1_ (toNat a4_) 0)) (toNat a4_) (getD a1_ (toNat a2_) 0)))) <|
 .g (inR r10_ (length (set (set a1_ (toNat a2_) (getD a1_ (toNat a4_) 0)) (toNat a4_) (getD a1_ (toNat a2_) 0)))) <|
 .g (decide ((toNat r10_) < length (set (set a1_ (toNat a2_) (getD a1_ (toNat a4_) 0)) (toNat a4_) (getD a1_ (toNat a2_) 0)))) <|
 .g (inR r10_ (length (set (set a1_ (toNat a2_) (getD a1_ (toNat a4_) 0)) (toNat a4_) (getD a1_ (toNat a2_) 0)))) <|
 .g (decide ((toNat r10_) < length (set (set a1_ (toNat a2_) (getD a1_ (toNat a4_) 0)) (toNat a4_) (getD a1_ (toNat a2_) 0)))) <|
 .g (inR r20_ (length (set (set (set a1_ (toNat a2_) (getD a1_ (toNat a4_) 0)) (toNat a4_) (getD a1_ (toNat a2_) 0)) (toNat r10_) (getD (set (set a1_ (toNat a2_) (getD a1_ (toNat a4_) 0)) (toNat a4_) (getD a1_ (toNat a2_) 0)) (toNat r20_) (0 : Int))))) <|
 .g (decide ((toNat r20_) < length (set (set (set a1_ (toNat a2_) (getD a1_ (toNat a4_) 0)) (toNat a4_) (getD a1_ (toNat a2_) 0)) (toNat r10_) (getD (set (set a1_ (toNat a2_) (getD a1_ (toNat a4_) 0)) (toNat a4_) (getD a1_ (toNat a2_) 0)) (toNat r20_) (0 : Int))))) <|
 .c (Int × Y1) (wbho a2_ ((wrap .i64 (r10_ + 1)), ((wrap .i64 (r20_ - 1)), (set (set (set (set a1_ (toNat a2_) (getD a1_ (toNat a4_) 0)) (toNat a4_) (getD a1_ (toNat a2_) 0)) (toNat r10_) (getD (set (set a1_ (toNat a2_) (getD a1_ (toNat a4_) 0)) (toNat a4_) (getD a1_ (toNat a2_) 0)) (toNat r20_) (0 : Int))) (toNat r20_) (getD (set (set a1_ (toNat a2_) (getD a1_ (toNat a4_) 0)) (toNat a4_) (getD a1_ (toNat a2_) 0)) (toNat r10_) (0 : Int)))))) fun r48_ =>
 .g (inR a2_ (length r48_.2)) <|
 .g (decide ((toNat a2_) < length r48_.2)) <|
 .g (inR r48_.1 (length r48_.2)) <|
 .g (decide ((toNat r48_.1) < length r48_.2)) <|
 .g (inR r48_.1 (length r48_.2)) <|
 .g (decide ((toNat r48_.1) < length r48_.2)) <|
 .g (inR a2_ (length (set r48_.2 (toNat r48_.1) (getD r48_.2 (toNat a2_) 0)))) <|
 .g (decide ((toNat a2_) < length (set r48_.2 (toNat r48_.1) (getD r48_.2 (toNat a2_) 0)))) <|
 .l (r48_.1, (false, (set (set r48_.2 (toNat r48_.1) (getD r48_.2 (toNat a2_) 0)) (toNat a2_) (getD r48_.2 (toNat r48_.1) 0)))))
noncomputable def wcb (a2_ : Int) (a3_ : Int) (a4_ : Int) (a1_ : Y1) : Option (Int × (Bool × Y1)) := (wbon a2_ a3_ a4_ a1_).ev
noncomputable def wbzk : RetK := { acts := [], res := [.tmp 8, .tmp 9], sh := (yj [.dat yi, .dat .bool]), obs := [(64, .arr 3 yi)], pins := [(0, 0, 64)] }
noncomputable def wbhp : FD := yd (yj [.arr 64, .dat yi, .dat yi, .dat yi]) [(64, .arr 3 yi)] [.arg 0] (Int × (Bool × Y1)) (fun x => wcb x.1.2.1 x.1.2.2.1 x.1.2.2.2.1 x.2.1) (fun r => ([.dat yi r.1, .dat .bool r.2.1], [(64, .arr 3 yi r.2.2)]))
noncomputable def wyl : Env := wab [(281, D_zb)]
noncomputable def wym : List (Nat × LD) := [(0, wadf), (2, wadg), (6, wadh), (8, wadi), (4, wadj)]
noncomputable def wli : Code := (f283.body).getD .skip
noncomputable def wrp (rec_ : (Int) → (Int) → (Int) → Y1 → Option Y1) (_k : Unit) (v : Int × (Int × (Int × (Bool × (Bool × Y1))))) : Tr ((Int × (Int × (Int × (Bool × (Bool × Y1))))) ⊕ Y1) :=
 .t (decide ((wrap .i64 (v.2.1 - v.1)) ≤ (12 : Int)))
 (.c Y1 (wamh v.1 v.2.1 v.2.2.2.2.2) fun r7_ =>
 .l (.inr r7_))
 (.t (v.2.2.1 == 0)
 (.c Y1 (wbod v.1 v.2.1 v.2.2.2.2.2) fun r8_ =>
 .l (.inr r8_))
 (.t (!v.2.2.2.1)
 (.c Y1 (wbof v.1 v.2.1 v.2.2.2.2.2) fun r9_ =>
 .c (Int × Int) (wbgv r9_ v.1 v.2.1) fun r10_ =>
 .t (r10_.2 == 2)
 (.c Y1 (wbgy v.1 v.2.1 r9_) fun r11_ =>
 .t v.2.2.2.1
 (.t v.2.2.2.2.1
 (.t ((1 : Int) == (1 : Int))
 (.c (Bool × Y1) (wams v.1 v.2.1 r11_) fun r12_ =>
 .t r12_.1
 (.l (.inr r12_.2))
 (.t (decide (0 < v.1))
 (.g (inR (wrap .i64 (v.1 - 1)) (length r12_.2)) <|
 .g (decide ((toNat (wrap .i64 (v.1 - 1))) < length r12_.2)) <|
 .g (inR (wrap .i64 ((wrap .i64 (v.2.1 - 1)) - (wrap .i64 (r10_.1 - v.1)))) (length r12_.2)) <|
 .g (decide ((toNat (wrap .i64 ((wrap .i64 (v.2.1 - 1)) - (wrap .i64 (r10_.1 - v.1))))) < length r12_.2)) <|
 .c (Bool) (wgx (getD r12_.2 (toNat (wrap .i64 (v.1 - 1))) (0 : Int)) (getD r12_.2 (toNat (wrap .i64 ((wrap .i64 (v.2.1 - 1)) - (wrap .i64 (r10_.1 - v.1))))) (0 : Int))) fun r13_ =>
 .t (!r13_)
 (.c (Int × Y1) (wgn v.1 v.2.1 (wrap .i64 ((wrap .i64 (v.2.1 - 1)) - (wrap .i64 (r10_.1 - v.1)))) r12_.2) fun r14_ =>
 .l (.inl (r14_.1, (v.2.1, ((wrap .i64 (v.2.2.1 - 1)), (v.2.2.2.1, (v.2.2.2.2.1, r14_.2)))))))
 (.c (Int × (Bool × Y1)) (wcb v.1 v.2.1 (wrap .i64 ((wrap .i64 (v.2.1 - 1)) - (wrap .i64 (r10_.1 - v.1)))) r12_.2) fun r15_ =>
 .g (!decide ((8 : Int) = 0)) <|
 .t (decide ((wrap .i64 (r15_.1 - v.1)) < (wrap .i64 (v.2.1 - r15_.1))))
 (.c Y1 (rec_ v.1 r15_.1 (wrap .i64 (v.2.2.1 - 1)) r15_.2.2) fun r16_ =>
 .l (.inl ((wrap .i64 (r15_.1 + 1)), (v.2.1, ((wrap .i64 (v.2.2.1 - 1)), ((decide ((wrap .i64 (Int.tdiv (wrap .i64 (v.2.1 - v.1)) (8 : Int))) ≤ (wrap .i64 (r15_.1 - v.1)))), (r15_.2.1, r16_)))))))
 (.c Y1 (rec_ (wrap .i64 (r15_.1 + 1)) v.2.1 (wrap .i64 (v.2.2.1 - 1)) r15_.2.2) fun r17_ =>
 .l (.inl (v.1, (r15_.1, ((wrap .i64 (v.2.2.1 - 1)), ((decide ((wrap .i64 (Int.tdiv (wrap .i64 (v.2.1 - v.1)) (8 : Int))) ≤ (wrap .i64 (v.2.1 - r15_.1)))), (r15_.2.1, r17_)))))))))
 (.c (Int × (Bool × Y1)) (wcb v.1 v.2.1 (wrap .i64 ((wrap .i64 (v.2.1 - 1)) - (wrap .i64 (r10_.1 - v.1)))) r12_.2) fun r18_ =>
 .g (!decide ((8 : Int) = 0)) <|
 .t (decide ((wrap .i64 (r18_.1 - v.1)) < (wrap .i64 (v.2.1 - r18_.1))))
 (.c Y1 (rec_ v.1 r18_.1 (wrap .i64 (v.2.2.1 - 1)) r18_.2.2) fun r19_ =>
 .l (.inl ((wrap .i64 (r18_.1 + 1)), (v.2.1, ((wrap .i64 (v.2.2.1 - 1)), ((decide ((wrap .i64 (Int.tdiv (wrap .i64 (v.2.1 - v.1)) (8 : Int))) ≤ (wrap .i64 (r18_.1 - v.1)))), (r18_.2.1, r19_)))))))
 (.c Y1 (rec_ (wrap .i64 (r18_.1 + 1)) v.2.1 (wrap .i64 (v.2.2.1 - 1)) r18_.2.2) fun r20_ =>
 .l (.inl (v.1, (r18_.1, ((wrap .i64 (v.2.2.1 - 1)), ((decide ((wrap .i64 (Int.tdiv (wrap .i64 (v.2.1 - v.1)) (8 : Int))) ≤ (wrap .i64 (v.2.1 - r18_.1)))), (r18_.2.1, r20_))))))))))
 (.t (decide (0 < v.1))
 (.g (inR (wrap .i64 (v.1 - 1)) (length r11_)) <|
 .g (decide ((toNat (wrap .i64 (v.1 - 1))) < length r11_)) <|
 .g (inR (wrap .i64 ((wrap .i64 (v.2.1 - 1)) - (wrap .i64 (r10_.1 - v.1)))) (length r11_)) <|
 .g (decide ((toNat (wrap .i64 ((wrap .i64 (v.2.1 - 1)) - (wrap .i64 (r10_.1 - v.1))))) < length r11_)) <|
 .c (Bool) (wgx (getD r11_ (toNat (wrap .i64 (v.1 - 1))) (0 : Int)) (getD r11_ (toNat (wrap .i64 ((wrap .i64 (v.2.1 - 1)) - (wrap .i64 (r10_.1 - v.1))))) (0 : Int))) fun r21_ =>
 .t (!r21_)
 (.c (Int × Y1) (wgn v.1 v.2.1 (wrap .i64 ((wrap .i64 (v.2.1 - 1)) - (wrap .i64 (r10_.1 - v.1)))) r11_) fun r22_ =>
 .l (.inl (r22_.1, (v.2.1, ((wrap .i64 (v.2.2.1 - 1)), (v.2.2.2.1, (v.2.2.2.2.1, r22_.2)))))))
 (.c (Int × (Bool × Y1)) (wcb v.1 v.2.1 (wrap .i64 ((wrap .i64 (v.2.1 - 1)) - (wrap .i64 (r10_.1 - v.1)))) r11_) fun r23_ =>
 .g (!decide ((8 : Int) = 0)) <|
 .t (decide ((wrap .i64 (r23_.1 - v.1)) < (wrap .i64 (v.2.1 - r23_.1))))
 (.c Y1 (rec_ v.1 r23_.1 (wrap .i64 (v.2.2.1 - 1)) r23_.2.2) fun r24_ =>
 .l (.inl ((wrap .i64 (r23_.1 + 1)), (v.2.1, ((wrap .i64 (v.2.2.1 - 1)), ((decide ((wrap .i64 (Int.tdiv (wrap .i64 (v.2.1 - v.1)) (8 : Int))) ≤ (wrap .i64 (r23_.1 - v.1)))), (r23_.2.1, r24_)))))))
 (.c Y1 (rec_ (wrap .i64 (r23_.1 + 1)) v.2.1 (wrap .i64 (v.2.2.1 - 1)) r23_.2.2) fun r25_ =>
 .l (.inl (v.1, (r23_.1, ((wrap .i64 (v.2.2.1 - 1)), ((decide ((wrap .i64 (Int.tdiv (wrap .i64 (v.2.1 - v.1)) (8 : Int))) ≤ (wrap .i64 (v.2.1 - r23_.1)))), (r23_.2.1, r25_)))))))))
 (.c (Int × (Bool × Y1)) (wcb v.1 v.2.1 (wrap .i64 ((wrap .i64 (v.2.1 - 1)) - (wrap .i64 (r10_.1 - v.1)))) r11_) fun r26_ =>
 .g (!decide ((8 : Int) = 0)) <|
 .t (decide ((wrap .i64 (r26_.1 - v.1)) < (wrap .i64 (v.2.1 - r26_.1))))
 (.c Y1 (rec_ v.1 r26_.1 (wrap .i64 (v.2.2.1 - 1)) r26_.2.2) fun r27_ =>
 .l (.inl ((wrap .i64 (r26_.1 + 1)), (v.2.1, ((wrap .i64 (v.2.2.1 - 1)), ((decide ((wrap .i64 (Int.tdiv (wrap .i64 (v.2.1 - v.1)) (8 : Int))) ≤ (wrap .i64 (r26_.1 - v.1)))), (r26_.2.1, r27_)))))))
 (.c Y1 (rec_ (wrap .i64 (r26_.1 + 1)) v.2.1 (wrap .i64 (v.2.2.1 - 1)) r26_.2.2) fun r28_ =>
 .l (.inl (v.1, (r26_.1, ((wrap .i64 (v.2.2.1 - 1)), ((decide ((wrap .i64 (Int.tdiv (wrap .i64 (v.2.1 - v.1)) (8 : Int))) ≤ (wrap .i64 (v.2.1 - r26_.1)))), (r26_.2.1, r28_))))))))))
 (.t (decide (0 < v.1))
 (.g (inR (wrap .i64 (v.1 - 1)) (length r11_)) <|
 .g (decide ((toNat (wrap .i64 (v.1 - 1))) < length r11_)) <|
 .g (inR (wrap .i64 ((wrap .i64 (v.2.1 - 1)) - (wrap .i64 (r10_.1 - v.1)))) (length r11_)) <|
 .g (decide ((toNat (wrap .i64 ((wrap .i64 (v.2.1 - 1)) - (wrap .i64 (r10_.1 - v.1))))) < length r11_)) <|
 .c (Bool) (wgx (getD r11_ (toNat (wrap .i64 (v.1 - 1))) (0 : Int)) (getD r11_ (toNat (wrap .i64 ((wrap .i64 (v.2.1 - 1)) - (wrap .i64 (r10_.1 - v.1))))) (0 : Int))) fun r29_ =>
 .t (!r29_)
 (.c (Int × Y1) (wgn v.1 v.2.1 (wrap .i64 ((wrap .i64 (v.2.1 - 1)) - (wrap .i64 (r10_.1 - v.1)))) r11_) fun r30_ =>
 .l (.inl (r30_.1, (v.2.1, ((wrap .i64 (v.2.2.1 - 1)), (v.2.2.2.1, (v.2.2.2.2.1, r30_.2)))))))
 (.c (Int × (Bool × Y1)) (wcb v.1 v.2.1 (wrap .i64 ((wrap .i64 (v.2.1 - 1)) - (wrap .i64 (r10_.1 - v.1)))) r11_) fun r31_ =>
 .g (!decide ((8 : Int) = 0)) <|
 .t (decide ((wrap .i64 (r31_.1 - v.1)) < (wrap .i64 (v.2.1 - r31_.1))))
 (.c Y1 (rec_ v.1 r31_.1 (wrap .i64 (v.2.2.1 - 1)) r31_.2.2) fun r32_ =>
 .l (.inl ((wrap .i64 (r31_.1 + 1)), (v.2.1, ((wrap .i64 (v.2.2.1 - 1)), ((decide ((wrap .i64 (Int.tdiv (wrap .i64 (v.2.1 - v.1)) (8 : Int))) ≤ (wrap .i64 (r31_.1 - v.1)))), (r31_.2.1, r32_)))))))
 (.c Y1 (rec_ (wrap .i64 (r31_.1 + 1)) v.2.1 (wrap .i64 (v.2.2.1 - 1)) r31_.2.2) fun r33_ =>
 .l (.inl (v.1, (r31_.1, ((wrap .i64 (v.2.2.1 - 1)), ((decide ((wrap .i64 (Int.tdiv (wrap .i64 (v.2.1 - v.1)) (8 : Int))) ≤ (wrap .i64 (v.2.1 - r31_.1)))), (r31_.2.1, r33_)))))))))
 (.c (Int × (Bool × Y1)) (wcb v.1 v.2.1 (wrap .i64 ((wrap .i64 (v.2.1 - 1)) - (wrap .i64 (r10_.1 - v.1)))) r11_) fun r34_ =>
 .g (!decide ((8 : Int) = 0)) <|
 .t (decide ((wrap .i64 (r34_.1 - v.1)) < (wrap .i64 (v.2.1 - r34_.1))))
 (.c Y1 (rec_ v.1 r34_.1 (wrap .i64 (v.2.2.1 - 1)) r34_.2.2) fun r35_ =>
 .l (.inl ((wrap .i64 (r34_.1 + 1)), (v.2.1, ((wrap .i64 (v.2.2.1 - 1)), ((decide ((wrap .i64 (Int.tdiv (wrap .i64 (v.2.1 - v.1)) (8 : Int))) ≤ (wrap .i64 (r34_.1 - v.1)))), (r34_.2.1, r35_)))))))
 (.c Y1 (rec_ (wrap .i64 (r34_.1 + 1)) v.2.1 (wrap .i64 (v.2.2.1 - 1)) r34_.2.2) fun r36_ =>
 .l (.inl (v.1, (r34_.1, ((wrap .i64 (v.2.2.1 - 1)), ((decide ((wrap .i64 (Int.tdiv (wrap .i64 (v.2.1 - v.1)) (8 : Int))) ≤ (wrap .i64 (v.2.1 - r34_.1)))), (r34_.2.1, r36_))))))))))
 (.t (decide (0 < v.1))
 (.g (inR (wrap .i64 (v.1 - 1)) (length r11_)) <|
 .g (decide ((toNat (wrap .i64 (v.1 - 1))) < length r11_)) <|
 .g (inR (wrap .i64 ((wrap .i64 (v.2.1 - 1)) - (wrap .i64 (r10_.1 - v.1)))) (length r11_)) <|
 .g (decide ((toNat (wrap .i64 ((wrap .i64 (v.2.1 - 1)) - (wrap .i64 (r10_.1 - v.1))))) < length r11_)) <|
 .c (Bool) (wgx (getD r11_ (toNat (wrap .i64 (v.1 - 1))) (0 : Int)) (getD r11_ (toNat (wrap .i64 ((wrap .i64 (v.2.1 - 1)) - (wrap .i64 (r10_.1 - v.1))))) (0 : Int))) fun r37_ =>
 .t (!r37_)
 (.c (Int × Y1) (wgn v.1 v.2.1 (wrap .i64 ((wrap .i64 (v.2.1 - 1)) - (wrap .i64 (r10_.1 - v.1)))) r11_) fun r38_ =>
 .l (.inl (r38_.1, (v.2.1, ((wrap .i64 (v.2.2.1 - 1)), (v.2.2.2.1, (v.2.2.2.2.1, r38_.2)))))))
 (.c (Int × (Bool × Y1)) (wcb v.1 v.2.1 (wrap .i64 ((wrap .i64 (v.2.1 - 1)) - (wrap .i64 (r10_.1 - v.1)))) r11_) fun r39_ =>
 .g (!decide ((8 : Int) = 0)) <|
 .t (decide ((wrap .i64 (r39_.1 - v.1)) < (wrap .i64 (v.2.1 - r39_.1))))
 (.c Y1 (rec_ v.1 r39_.1 (wrap .i64 (v.2.2.1 - 1)) r39_.2.2) fun r40_ =>
 .l (.inl ((wrap .i64 (r39_.1 + 1)), (v.2.1, ((wrap .i64 (v.2.2.1 - 1)), ((decide ((wrap .i64 (Int.tdiv (wrap .i64 (v.2.1 - v.1)) (8 : Int))) ≤ (wrap .i64 (r39_.1 - v.1)))), (r39_.2.1, r40_)))))))
 (.c Y1 (rec_ (wrap .i64 (r39_.1 + 1)) v.2.1 (wrap .i64 (v.2.2.1 - 1)) r39_.2.2) fun r41_ =>
 .l (.inl (v.1, (r39_.1, ((wrap .i64 (v.2.2.1 - 1)), ((decide ((wrap .i64 (Int.tdiv (wrap .i64 (v.2.1 - v.1)) (8 : Int))) ≤ (wrap .i64 (v.2.1 - r39_.1)))), (r39_.2.1, r41_)))))))))
 (.c (Int × (Bool × Y1)) (wcb v.1 v.2.1 (wrap .i64 ((wrap .i64 (v.2.1 - 1)) - (wrap .i64 (r10_.1 - v.1)))) r11_) fun r42_ =>
 .g (!decide ((8 : Int) = 0)) <|
 .t (decide ((wrap .i64 (r42_.1 - v.1)) < (wrap .i64 (v.2.1 - r42_.1))))
 (.c Y1 (rec_ v.1 r42_.1 (wrap .i64 (v.2.2.1 - 1)) r42_.2.2) fun r43_ =>
 .l (.inl ((wrap .i64 (r42_.1 + 1)), (v.2.1, ((wrap .i64 (v.2.2.1 - 1)), ((decide ((wrap .i64 (Int.tdiv (wrap .i64 (v.2.1 - v.1)) (8 : Int))) ≤ (wrap .i64 (r42_.1 - v.1)))), (r42_.2.1, r43_)))))))
 (.c Y1 (rec_ (wrap .i64 (r42_.1 + 1)) v.2.1 (wrap .i64 (v.2.2.1 - 1)) r42_.2.2) fun r44_ =>
 .l (.inl (v.1, (r42_.1, ((wrap .i64 (v.2.2.1 - 1)), ((decide ((wrap .i64 (Int.tdiv (wrap .i64 (v.2.1 - v.1)) (8 : Int))) ≤ (wrap .i64 (v.2.1 - r42_.1)))), (r42_.2.1, r44_))))))))))
 (.t v.2.2.2.1
 (.t v.2.2.2.2.1
 (.t (r10_.2 == 1)
 (.c (Bool × Y1) (wams v.1 v.2.1 r9_) fun r45_ =>
 .t r45_.1
 (.l (.inr r45_.2))
 (.t (decide (0 < v.1))
 (.g (inR (wrap .i64 (v.1 - 1)) (length r45_.2)) <|
 .g (decide ((toNat (wrap .i64 (v.1 - 1))) < length r45_.2)) <|
 .g (inR r10_.1 (length r45_.2)) <|
 .g (decide ((toNat r10_.1) < length r45_.2)) <|
 .c (Bool) (wgx (getD r45_.2 (toNat (wrap .i64 (v.1 - 1))) (0 : Int)) (getD r45_.2 (toNat r10_.1) 0)) fun r46_ =>
 .t (!r46_)
 (.c (Int × Y1) (wgn v.1 v.2.1 r10_.1 r45_.2) fun r47_ =>
 .l (.inl (r47_.1, (v.2.1, ((wrap .i64 (v.2.2.1 - 1)), (v.2.2.2.1, (v.2.2.2.2.1, r47_.2)))))))
 (.c (Int × (Bool × Y1)) (wcb v.1 v.2.1 r10_.1 r45_.2) fun r48_ =>
 .g (!decide ((8 : Int) = 0)) <|
 .t (decide ((wrap .i64 (r48_.1 - v.1)) < (wrap .i64 (v.2.1 - r48_.1))))
 (.c Y1 (rec_ v.1 r48_.1 (wrap .i64 (v.2.2.1 - 1)) r48_.2.2) fun r49_ =>
 .l (.inl ((wrap .i64 (r48_.1 + 1)), (v.2.1, ((wrap .i64 (v.2.2.1 - 1)), ((decide ((wrap .i64 (Int.tdiv (wrap .i64 (v.2.1 - v.1)) (8 : Int))) ≤ (wrap .i64 (r48_.1 - v.1)))), (r48_.2.1, r49_)))))))
 (.c Y1 (rec_ (wrap .i64 (r48_.1 + 1)) v.2.1 (wrap .i64 (v.2.2.1 - 1)) r48_.2.2) fun r50_ =>
 .l (.inl (v.1, (r48_.1, ((wrap .i64 (v.2.2.1 - 1)), ((decide ((wrap .i64 (Int.tdiv (wrap .i64 (v.2.1 - v.1)) (8 : Int))) ≤ (wrap .i64 (v.2.1 - r48_.1)))), (r48_.2.1, r50_)))))))))
 (.c (Int × (Bool × Y1)) (wcb v.1 v.2.1 r10_.1 r45_.2) fun r51_ =>
 .g (!decide ((8 : Int) = 0)) <|
 .t (decide ((wrap .i64 (r51_.1 - v.1)) < (wrap .i64 (v.2.1 - r51_.1))))
 (.c Y1 (rec_ v.1 r51_.1 (wrap .i64 (v.2.2.1 - 1)) r51_.2.2) fun r52_ =>
 .l (.inl ((wrap .i64 (r51_.1 + 1)), (v.2.1, ((wrap .i64 (v.2.2.1 - 1)), ((decide ((wrap .i64 (Int.tdiv (wrap .i64 (v.2.1 - v.1)) (8 : Int))) ≤ (wrap .i64 (r51_.1 - v.1)))), (r51_.2.1, r52_)))))))
 (.c Y1 (rec_ (wrap .i64 (r51_.1 + 1)) v.2.1 (wrap .i64 (v.2.2.1 - 1)) r51_.2.2) fun r53_ =>
 .l (.inl (v.1, (r51_.1, ((wrap .i64 (v.2.2.1 - 1)), ((decide ((wrap .i64 (Int.tdiv (wrap .i64 (v.2.1 - v.1)) (8 : Int))) ≤ (wrap .i64 (v.2.1 - r51_.1)))), (r51_.2.1, r53_))))))))))
 (.t (decide (0 < v.1))
 (.g (inR (wrap .i64 (v.1 - 1)) (length r9_)) <|
 .g (decide ((toNat (wrap .i64 (v.1 - 1))) < length r9_)) <|
 .g (inR r10_.1 (length r9_)) <|
 .g (decide ((toNat r10_.1) < length r9_)) <|
 .c (Bool) (wgx (getD r9_ (toNat (wrap .i64 (v.1 - 1))) (0 : Int)) (getD r9_ (toNat r10_.1) 0)) fun r54_ =>
 .t (!r54_)
 (.c (Int × Y1) (wgn v.1 v.2.1 r10_.1 r9_) fun r55_ =>
 .l (.inl (r55_.1, (v.2.1, ((wrap .i64 (v.2.2.1 - 1)), (v.2.2.2.1, (v.2.2.2.2.1, r55_.2)))))))
 (.c (Int × (Bool × Y1)) (wcb v.1 v.2.1 r10_.1 r9_) fun r56_ =>
 .g (!decide ((8 : Int) = 0)) <|
 .t (decide ((wrap .i64 (r56_.1 - v.1)) < (wrap .i64 (v.2.1 - r56_.1))))
 (.c Y1 (rec_ v.1 r56_.1 (wrap .i64 (v.2.2.1 - 1)) r56_.2.2) fun r57_ =>
 .l (.inl ((wrap .i64 (r56_.1 + 1)), (v.2.1, ((wrap .i64 (v.2.2.1 - 1)), ((decide ((wrap .i64 (Int.tdiv (wrap .i64 (v.2.1 - v.1)) (8 : Int))) ≤ (wrap .i64 (r56_.1 - v.1)))), (r56_.2.1, r57_)))))))
 (.c Y1 (rec_ (wrap .i64 (r56_.1 + 1)) v.2.1 (wrap .i64 (v.2.2.1 - 1)) r56_.2.2) fun r58_ =>
 .l (.inl (v.1, (r56_.1, ((wrap .i64 (v.2.2.1 - 1)), ((decide ((wrap .i64 (Int.tdiv (wrap .i64 (v.2.1 - v.1)) (8 : Int))) ≤ (wrap .i64 (v.2.1 - r56_.1)))), (r56_.2.1, r58_)))))))))
 (.c (Int × (Bool × Y1)) (wcb v.1 v.2.1 r10_.1 r9_) fun r59_ =>
 .g (!decide ((8 : Int) = 0)) <|
 .t (decide ((wrap .i64 (r59_.1 - v.1)) < (wrap .i64 (v.2.1 - r59_.1))))
 (.c Y1 (rec_ v.1 r59_.1 (wrap .i64 (v.2.2.1 - 1)) r59_.2.2) fun r60_ =>
 .l (.inl ((wrap .i64 (r59_.1 + 1)), (v.2.1, ((wrap .i64 (v.2.2.1 - 1)), ((decide ((wrap .i64 (Int.tdiv (wrap .i64 (v.2.1 - v.1)) (8 : Int))) ≤ (wrap .i64 (r59_.1 - v.1)))), (r59_.2.1, r60_)))))))
 (.c Y1 (rec_ (wrap .i64 (r59_.1 + 1)) v.2.1 (wrap .i64 (v.2.2.1 - 1)) r59_.2.2) fun r61_ =>
 .l (.inl (v.1, (r59_.1, ((wrap .i64 (v.2.2.1 - 1)), ((decide ((wrap .i64 (Int.tdiv (wrap .i64 (v.2.1 - v.1)) (8 : Int))) ≤ (wrap .i64 (v.2.1 - r59_.1)))), (r59_.2.1, r61_))))))))))
 (.t (decide (0 < v.1))
 (.g (inR (wrap .i64 (v.1 - 1)) (length r9_)) <|
 .g (decide ((toNat (wrap .i64 (v.1 - 1))) < length r9_)) <|
 .g (inR r10_.1 (length r9_)) <|
 .g (decide ((toNat r10_.1) < length r9_)) <|
 .c (Bool) (wgx (getD r9_ (toNat (wrap .i64 (v.1 - 1))) (0 : Int)) (getD r9_ (toNat r10_.1) 0)) fun r62_ =>
 .t (!r62_)
 (.c (Int × Y1) (wgn v.1 v.2.1 r10_.1 r9_) fun r63_ =>
 .l (.inl (r63_.1, (v.2.1, ((wrap .i64 (v.2.2.1 - 1)), (v.2.2.2.1, (v.2.2.2.2.1, r63_.2)))))))
 (.c (Int × (Bool × Y1)) (wcb v.1 v.2.1 r10_.1 r9_) fun r64_ =>
 .g (!decide ((8 : Int) = 0)) <|
 .t (decide ((wrap .i64 (r64_.1 - v.1)) < (wrap .i64 (v.2.1 - r64_.1))))
 (.c Y1 (rec_ v.1 r64_.1 (wrap .i64 (v.2.2.1 - 1)) r64_.2.2) fun r65_ =>
 .l (.inl ((wrap .i64 (r64_.1 + 1)), (v.2.1, ((wrap .i64 (v.2.2.1 - 1)), ((decide ((wrap .i64 (Int.tdiv (wrap .i64 (v.2.1 - v.1)) (8 : Int))) ≤ (wrap .i64 (r64_.1 - v.1)))), (r64_.2.1, r65_)))))))
 (.c Y1 (rec_ (wrap .i64 (r64_.1 + 1)) v.2.1 (wrap .i64 (v.2.2.1 - 1)) r64_.2.2) fun r66_ =>
 .l (.inl (v.1, (r64_.1, ((wrap .i64 (v.2.2.1 - 1)), ((decide ((wrap .i64 (Int.tdiv (wrap .i64 (v.2.1 - v.1)) (8 : Int))) ≤ (wrap .i64 (v.2.1 - r64_.1)))), (r64_.2.1, r66_)))))))))
 (.c (Int × (Bool × Y1)) (wcb v.1 v.2.1 r10_.1 r9_) fun r67_ =>
 .g (!decide ((8 : Int) = 0)) <|
 .t (decide ((wrap .i64 (r67_.1 - v.1)) < (wrap .i64 (v.2.1 - r67_.1))))
 (.c Y1 (rec_ v.1 r67_.1 (wrap .i64 (v.2.2.1 - 1)) r67_.2.2) fun r68_ =>
 .l (.inl ((wrap .i64 (r67_.1 + 1)), (v.2.1, ((wrap .i64 (v.2.2.1 - 1)), ((decide ((wrap .i64 (Int.tdiv (wrap .i64 (v.2.1 - v.1)) (8 : Int))) ≤ (wrap .i64 (r67_.1 - v.1)))), (r67_.2.1, r68_)))))))
 (.c Y1 (rec_ (wrap .i64 (r67_.1 + 1)) v.2.1 (wrap .i64 (v.2.2.1 - 1)) r67_.2.2) fun r69_ =>
 .l (.inl (v.1, (r67_.1, ((wrap .i64 (v.2.2.1 - 1)), ((decide ((wrap .i64 (Int.tdiv (wrap .i64 (v.2.1 - v.1)) (8 : Int))) ≤ (wrap .i64 (v.2.1 - r67_.1)))), (r67_.2.1, r69_))))))))))
 (.t (decide (0 < v.1))
 (.g (inR (wrap .i64 (v.1 - 1)) (length r9_)) <|
 .g (decide ((toNat (wrap .i64 (v.1 - 1))) < length r9_)) <|
 .g (inR r10_.1 (length r9_)) <|
 .g (decide ((toNat r10_.1) < length r9_)) <|
 .c (Bool) (wgx (getD r9_ (toNat (wrap .i64 (v.1 - 1))) (0 : Int)) (getD r9_ (toNat r10_.1) 0)) fun r70_ =>
 .t (!r70_)
 (.c (Int × Y1) (wgn v.1 v.2.1 r10_.1 r9_) fun r71_ =>
 .l (.inl (r71_.1, (v.2.1, ((wrap .i64 (v.2.2.1 - 1)), (v.2.2.2.1, (v.2.2.2.2.1, r71_.2)))))))
 (.c (Int × (Bool × Y1)) (wcb v.1 v.2.1 r10_.1 r9_) fun r72_ =>
 .g (!decide ((8 : Int) = 0)) <|
 .t (decide ((wrap .i64 (r72_.1 - v.1)) < (wrap .i64 (v.2.1 - r72_.1))))
 (.c Y1 (rec_ v.1 r72_.1 (wrap .i64 (v.2.2.1 - 1)) r72_.2.2) fun r73_ =>
 .l (.inl ((wrap .i64 (r72_.1 + 1)), (v.2.1, ((wrap .i64 (v.2.2.1 - 1)), ((decide ((wrap .i64 (Int.tdiv (wrap .i64 (v.2.1 - v.1)) (8 : Int))) ≤ (wrap .i64 (r72_.1 - v.1)))), (r72_.2.1, r73_)))))))
 (.c Y1 (rec_ (wrap .i64 (r72_.1 + 1)) v.2.1 (wrap .i64 (v.2.2.1 - 1)) r72_.2.2) fun r74_ =>
 .l (.inl (v.1, (r72_.1, ((wrap .i64 (v.2.2.1 - 1)), ((decide ((wrap .i64 (Int.tdiv (wrap .i64 (v.2.1 - v.1)) (8 : Int))) ≤ (wrap .i64 (v.2.1 - r72_.1)))), (r72_.2.1, r74_)))))))))
 (.c (Int × (Bool × Y1)) (wcb v.1 v.2.1 r10_.1 r9_) fun r75_ =>
 .g (!decide ((8 : Int) = 0)) <|
 .t (decide ((wrap .i64 (r75_.1 - v.1)) < (wrap .i64 (v.2.1 - r75_.1))))
 (.c Y1 (rec_ v.1 r75_.1 (wrap .i64 (v.2.2.1 - 1)) r75_.2.2) fun r76_ =>
 .l (.inl ((wrap .i64 (r75_.1 + 1)), (v.2.1, ((wrap .i64 (v.2.2.1 - 1)), ((decide ((wrap .i64 (Int.tdiv (wrap .i64 (v.2.1 - v.1)) (8 : Int))) ≤ (wrap .i64 (r75_.1 - v.1)))), (r75_.2.1, r76_)))))))
 (.c Y1 (rec_ (wrap .i64 (r75_.1 + 1)) v.2.1 (wrap .i64 (v.2.2.1 - 1)) r75_.2.2) fun r77_ =>
 .l (.inl (v.1, (r75_.1, ((wrap .i64 (v.2.2.1 - 1)), ((decide ((wrap .i64 (Int.tdiv (wrap .i64 (v.2.1 - v.1)) (8 : Int))) ≤ (wrap .i64 (v.2.1 - r75_.1)))), (r75_.2.1, r77_)))))))))))
 (.c (Int × Int) (wbgv v.2.2.2.2.2 v.1 v.2.1) fun r78_ =>
 .t (r78_.2 == 2)
 (.c Y1 (wbgy v.1 v.2.1 v.2.2.2.2.2) fun r79_ =>
 .t v.2.2.2.1
 (.t v.2.2.2.2.1
 (.t ((1 : Int) == (1 : Int))
 (.c (Bool × Y1) (wams v.1 v.2.1 r79_) fun r80_ =>
 .t r80_.1
 (.l (.inr r80_.2))
 (.t (decide (0 < v.1))
 (.g (inR (wrap .i64 (v.1 - 1)) (length r80_.2)) <|
 .g (decide ((toNat (wrap .i64 (v.1 - 1))) < length r80_.2)) <|
 .g (inR (wrap .i64 ((wrap .i64 (v.2.1 - 1)) - (wrap .i64 (r78_.1 - v.1)))) (length r80_.2)) <|
 .g (decide ((toNat (wrap .i64 ((wrap .i64 (v.2.1 - 1)) - (wrap .i64 (r78_.1 - v.1))))) < length r80_.2)) <|
 .c (Bool) (wgx (getD r80_.2 (toNat (wrap .i64 (v.1 - 1))) (0 : Int)) (getD r80_.2 (toNat (wrap .i64 ((wrap .i64 (v.2.1 - 1)) - (wrap .i64 (r78_.1 - v.1))))) (0 : Int))) fun r81_ =>
 .t (!r81_)
 (.c (Int × Y1) (wgn v.1 v.2.1 (wrap .i64 ((wrap .i64 (v.2.1 - 1)) - (wrap .i64 (r78_.1 - v.1)))) r80_.2) fun r82_ =>
 .l (.inl (r82_.1, (v.2.1, (v.2.2.1, (v.2.2.2.1, (v.2.2.2.2.1, r82_.2)))))))
 (.c (Int × (Bool × Y1)) (wcb v.1 v.2.1 (wrap .i64 ((wrap .i64 (v.2.1 - 1)) - (wrap .i64 (r78_.1 - v.1)))) r80_.2) fun r83_ =>
 .g (!decide ((8 : Int) = 0)) <|
 .t (decide ((wrap .i64 (r83_.1 - v.1)) < (wrap .i64 (v.2.1 - r83_.1))))
 (.c Y1 (rec_ v.1 r83_.1 v.2.2.1 r83_.2.2) fun r84_ =>
 .l (.inl ((wrap .i64 (r83_.1 + 1)), (v.2.1, (v.2.2.1, ((decide ((wrap .i64 (Int.tdiv (wrap .i64 (v.2.1 - v.1)) (8 : Int))) ≤ (wrap .i64 (r83_.1 - v.1)))), (r83_.2.1, r84_)))))))
 (.c Y1 (rec_ (wrap .i64 (r83_.1 + 1)) v.2.1 v.2.2.1 r83_.2.2) fun r85_ =>
 .l (.inl (v.1, (r83_.1, (v.2.2.1, ((decide ((wrap .i64 (Int.tdiv (wrap .i64 (v.2.1 - v.1)) (8 : Int))) ≤ (wrap .i64 (v.2.1 - r83_.1)))), (r83_.2.1, r85_)))))))))
 (.c (Int × (Bool × Y1)) (wcb v.1 v.2.1 (wrap .i64 ((wrap .i64 (v.2.1 - 1)) - (wrap .i64 (r78_.1 - v.1)))) r80_.2) fun r86_ =>
 .g (!decide ((8 : Int) = 0)) <|
 .t (decide ((wrap .i64 (r86_.1 - v.1)) < (wrap .i64 (v.2.1 - r86_.1))))
 (.c Y1 (rec_ v.1 r86_.1 v.2.2.1 r86_.2.2) fun r87_ =>
 .l (.inl ((wrap .i64 (r86_.1 + 1)), (v.2.1, (v.2.2.1, ((decide ((wrap .i64 (Int.tdiv (wrap .i64 (v.2.1 - v.1)) (8 : Int))) ≤ (wrap .i64 (r86_.1 - v.1)))), (r86_.2.1, r87_)))))))
 (.c Y1 (rec_ (wrap .i64 (r86_.1 + 1)) v.2.1 v.2.2.1 r86_.2.2) fun r88_ =>
 .l (.inl (v.1, (r86_.1, (v.2.2.1, ((decide ((wrap .i64 (Int.tdiv (wrap .i64 (v.2.1 - v.1)) (8 : Int))) ≤ (wrap .i64 (v.2.1 - r86_.1)))), (r86_.2.1, r88_))))))))))
 (.t (decide (0 < v.1))
 (.g (inR (wrap .i64 (v.1 - 1)) (length r79_)) <|
 .g (decide ((toNat (wrap .i64 (v.1 - 1))) < length r79_)) <|
 .g (inR (wrap .i64 ((wrap .i64 (v.2.1 - 1)) - (wrap .i64 (r78_.1 - v.1)))) (length r79_)) <|
 .g (decide ((toNat (wrap .i64 ((wrap .i64 (v.2.1 - 1)) - (wrap .i64 (r78_.1 - v.1))))) < length r79_)) <|
 .c (Bool) (wgx (getD r79_ (toNat (wrap .i64 (v.1 - 1))) (0 : Int)) (getD r79_ (toNat (wrap .i64 ((wrap .i64 (v.2.1 - 1)) - (wrap .i64 (r78_.1 - v.1))))) (0 : Int))) fun r89_ =>
 .t (!r89_)
 (.c (Int × Y1) (wgn v.1 v.2.1 (wrap .i64 ((wrap .i64 (v.2.1 - 1)) - (wrap .i64 (r78_.1 - v.1)))) r79_) fun r90_ =>
 .l (.inl (r90_.1, (v.2.1, (v.2.2.1, (v.2.2.2.1, (v.2.2.2.2.1, r90_.2)))))))
 (.c (Int × (Bool × Y1)) (wcb v.1 v.2.1 (wrap .i64 ((wrap .i64 (v.2.1 - 1)) - (wrap .i64 (r78_.1 - v.1)))) r79_) fun r91_ =>
 .g (!decide ((8 : Int) = 0)) <|
 .t (decide ((wrap .i64 (r91_.1 - v.1)) < (wrap .i64 (v.2.1 - r91_.1))))
 (.c Y1 (rec_ v.1 r91_.1 v.2.2.1 r91_.2.2) fun r92_ =>
 .l (.inl ((wrap .i64 (r91_.1 + 1)), (v.2.1, (v.2.2.1, ((decide ((wrap .i64 (Int.tdiv (wrap .i64 (v.2.1 - v.1)) (8 : Int))) ≤ (wrap .i64 (r91_.1 - v.1)))), (r91_.2.1, r92_)))))))
 (.c Y1 (rec_ (wrap .i64 (r91_.1 + 1)) v.2.1 v.2.2.1 r91_.2.2) fun r93_ =>
 .l (.inl (v.1, (r91_.1, (v.2.2.1, ((decide ((wrap .i64 (Int.tdiv (wrap .i64 (v.2.1 - v.1)) (8 : Int))) ≤ (wrap .i64 (v.2.1 - r91_.1)))), (r91_.2.1, r93_)))))))))
 (.c (Int × (Bool × Y1)) (wcb v.1 v.2.1 (wrap .i64 ((wrap .i64 (v.2.1 - 1)) - (wrap .i64 (r78_.1 - v.1)))) r79_) fun r94_ =>
 .g (!decide ((8 : Int) = 0)) <|
 .t (decide ((wrap .i64 (r94_.1 - v.1)) < (wrap .i64 (v.2.1 - r94_.1))))
 (.c Y1 (rec_ v.1 r94_.1 v.2.2.1 r94_.2.2) fun r95_ =>
 .l (.inl ((wrap .i64 (r94_.1 + 1)), (v.2.1, (v.2.2.1, ((decide ((wrap .i64 (Int.tdiv (wrap .i64 (v.2.1 - v.1)) (8 : Int))) ≤ (wrap .i64 (r94_.1 - v.1)))), (r94_.2.1, r95_)))))))
 (.c Y1 (rec_ (wrap .i64 (r94_.1 + 1)) v.2.1 v.2.2.1 r94_.2.2) fun r96_ =>
 .l (.inl (v.1, (r94_.1, (v.2.2.1, ((decide ((wrap .i64 (Int.tdiv (wrap .i64 (v.2.1 - v.1)) (8 : Int))) ≤ (wrap .i64 (v.2.1 - r94_.1)))), (r94_.2.1, r96_))))))))))
 (.t (decide (0 < v.1))
 (.g (inR (wrap .i64 (v.1 - 1)) (length r79_)) <|
 .g (decide ((toNat (wrap .i64 (v.1 - 1))) < length r79_)) <|
 .g (inR (wrap .i64 ((wrap .i64 (v.2.1 - 1)) - (wrap .i64 (r78_.1 - v.1)))) (length r79_)) <|
 .g (decide ((toNat (wrap .i64 ((wrap .i64 (v.2.1 - 1)) - (wrap .i64 (r78_.1 - v.1))))) < length r79_)) <|
 .c (Bool) (wgx (getD r79_ (toNat (wrap .i64 (v.1 - 1))) (0 : Int)) (getD r79_ (toNat (wrap .i64 ((wrap .i64 (v.2.1 - 1)) - (wrap .i64 (r78_.1 - v.1))))) (0 : Int))) fun r97_ =>
 .t (!r97_)
 (.c (Int × Y1) (wgn v.1 v.2.1 (wrap .i64 ((wrap .i64 (v.2.1 - 1)) - (wrap .i64 (r78_.1 - v.1)))) r79_) fun r98_ =>
 .l (.inl (r98_.1, (v.2.1, (v.2.2.1, (v.2.2.2.1, (v.2.2.2.2.1, r98_.2)))))))
 (.c (Int × (Bool × Y1)) (wcb v.1 v.2.1 (wrap .i64 ((wrap .i64 (v.2.1 - 1)) - (wrap .i64 (r78_.1 - v.1)))) r79_) fun r99_ =>
 .g (!decide ((8 : Int) = 0)) <|
 .t (decide ((wrap .i64 (r99_.1 - v.1)) < (wrap .i64 (v.2.1 - r99_.1))))
 (.c Y1 (rec_ v.1 r99_.1 v.2.2.1 r99_.2.2) fun r100_ =>
 .l (.inl ((wrap .i64 (r99_.1 + 1)), (v.2.1, (v.2.2.1, ((decide ((wrap .i64 (Int.tdiv (wrap .i64 (v.2.1 - v.1)) (8 : Int))) ≤ (wrap .i64 (r99_.1 - v.1)))), (r99_.2.1, r100_)))))))
 (.c Y1 (rec_ (wrap .i64 (r99_.1 + 1)) v.2.1 v.2.2.1 r99_.2.2) fun r101_ =>
 .l (.inl (v.1, (r99_.1, (v.2.2.1, ((decide ((wrap .i64 (Int.tdiv (wrap .i64 (v.2.1 - v.1)) (8 : Int))) ≤ (wrap .i64 (v.2.1 - r99_.1)))), (r99_.2.1, r101_)))))))))
 (.c (Int × (Bool × Y1)) (wcb v.1 v.2.1 (wrap .i64 ((wrap .i64 (v.2.1 - 1)) - (wrap .i64 (r78_.1 - v.1)))) r79_) fun r102_ =>
 .g (!decide ((8 : Int) = 0)) <|
 .t (decide ((wrap .i64 (r102_.1 - v.1)) < (wrap .i64 (v.2.1 - r102_.1))))
 (.c Y1 (rec_ v.1 r102_.1 v.2.2.1 r102_.2.2) fun r103_ =>
 .l (.inl ((wrap .i64 (r102_.1 + 1)), (v.2.1, (v.2.2.1, ((decide ((wrap .i64 (Int.tdiv (wrap .i64 (v.2.1 - v.1)) (8 : Int))) ≤ (wrap .i64 (r102_.1 - v.1)))), (r102_.2.1, r103_)))))))
 (.c Y1 (rec_ (wrap .i64 (r102_.1 + 1)) v.2.1 v.2.2.1 r102_.2.2) fun r104_ =>
 .l (.inl (v.1, (r102_.1, (v.2.2.1, ((decide ((wrap .i64 (Int.tdiv (wrap .i64 (v.2.1 - v.1)) (8 : Int))) ≤ (wrap .i64 (v.2.1 - r102_.1)))), (r102_.2.1, r104_))))))))))
 (.t (decide (0 < v.1))
 (.g (inR (wrap .i64 (v.1 - 1)) (length r79_)) <|
 .g (decide ((toNat (wrap .i64 (v.1 - 1))) < length r79_)) <|
 .g (inR (wrap .i64 ((wrap .i64 (v.2.1 - 1)) - (wrap .i64 (r78_.1 - v.1)))) (length r79_)) <|
 .g (decide ((toNat (wrap .i64 ((wrap .i64 (v.2.1 - 1)) - (wrap .i64 (r78_.1 - v.1))))) < length r79_)) <|
 .c (Bool) (wgx (getD r79_ (toNat (wrap .i64 (v.1 - 1))) (0 : Int)) (getD r79_ (toNat (wrap .i64 ((wrap .i64 (v.2.1 - 1)) - (wrap .i64 (r78_.1 - v.1))))) (0 : Int))) fun r105_ =>
 .t (!r105_)
 (.c (Int × Y1) (wgn v.1 v.2.1 (wrap .i64 ((wrap .i64 (v.2.1 - 1)) - (wrap .i64 (r78_.1 - v.1)))) r79_) fun r106_ =>
 .l (.inl (r106_.1, (v.2.1, (v.2.2.1, (v.2.2.2.1, (v.2.2.2.2.1, r106_.2)))))))
 (.c (Int × (Bool × Y1)) (wcb v.1 v.2.1 (wrap .i64 ((wrap .i64 (v.2.1 - 1)) - (wrap .i64 (r78_.1 - v.1)))) r79_) fun r107_ =>
 .g (!decide ((8 : Int) = 0)) <|
 .t (decide ((wrap .i64 (r107_.1 - v.1)) < (wrap .i64 (v.2.1 - r107_.1))))
 (.c Y1 (rec_ v.1 r107_.1 v.2.2.1 r107_.2.2) fun r108_ =>
 .l (.inl ((wrap .i64 (r107_.1 + 1)), (v.2.1, (v.2.2.1, ((decide ((wrap .i64 (Int.tdiv (wrap .i64 (v.2.1 - v.1)) (8 : Int))) ≤ (wrap .i64 (r107_.1 - v.1)))), (r107_.2.1, r108_)))))))
 (.c Y1 (rec_ (wrap .i64 (r107_.1 + 1)) v.2.1 v.2.2.1 r107_.2.2) fun r109_ =>
 .l (.inl (v.1, (r107_.1, (v.2.2.1, ((decide ((wrap .i64 (Int.tdiv (wrap .i64 (v.2.1 - v.1)) (8 : Int))) ≤ (wrap .i64 (v.2.1 - r107_.1)))), (r107_.2.1, r109_)))))))))
 (.c (Int × (Bool × Y1)) (wcb v.1 v.2.1 (wrap .i64 ((wrap .i64 (v.2.1 - 1)) - (wrap .i64 (r78_.1 - v.1)))) r79_) fun r110_ =>
 .g (!decide ((8 : Int) = 0)) <|
 .t (decide ((wrap .i64 (r110_.1 - v.1)) < (wrap .i64 (v.2.1 - r110_.1))))
 (.c Y1 (rec_ v.1 r110_.1 v.2.2.1 r110_.2.2) fun r111_ =>
 .l (.inl ((wrap .i64 (r110_.1 + 1)), (v.2.1, (v.2.2.1, ((decide ((wrap .i64 (Int.tdiv (wrap .i64 (v.2.1 - v.1)) (8 : Int))) ≤ (wrap .i64 (r110_.1 - v.1)))), (r110_.2.1, r111_)))))))
 (.c Y1 (rec_ (wrap .i64 (r110_.1 + 1)) v.2.1 v.2.2.1 r110_.2.2) fun r112_ =>
 .l (.inl (v.1, (r110_.1, (v.2.2.1, ((decide ((wrap .i64 (Int.tdiv (wrap .i64 (v.2.1 - v.1)) (8 : Int))) ≤ (wrap .i64 (v.2.1 - r110_.1)))), (r110_.2.1, r112_))))))))))
 (.t v.2.2.2.1
 (.t v.2.2.2.2.1
 (.t (r78_.2 == 1)
 (.c (Bool × Y1) (wams v.1 v.2.1 v.2.2.2.2.2) fun r113_ =>
 .t r113_.1
 (.l (.inr r113_.2))
 (.t (decide (0 < v.1))
 (.g (inR (wrap .i64 (v.1 - 1)) (length r113_.2)) <|
 .g (decide ((toNat (wrap .i64 (v.1 - 1))) < length r113_.2)) <|
 .g (inR r78_.1 (length r113_.2)) <|
 .g (decide ((toNat r78_.1) < length r113_.2)) <|
 .c (Bool) (wgx (getD r113_.2 (toNat (wrap .i64 (v.1 - 1))) (0 : Int)) (getD r113_.2 (toNat r78_.1) 0)) fun r114_ =>
 .t (!r114_)
 (.c (Int × Y1) (wgn v.1 v.2.1 r78_.1 r113_.2) fun r115_ =>
 .l (.inl (r115_.1, (v.2.1, (v.2.2.1, (v.2.2.2.1, (v.2.2.2.2.1, r115_.2)))))))
 (.c (Int × (Bool × Y1)) (wcb v.1 v.2.1 r78_.1 r113_.2) fun r116_ =>
 .g (!decide ((8 : Int) = 0)) <|
 .t (decide ((wrap .i64 (r116_.1 - v.1)) < (wrap .i64 (v.2.1 - r116_.1))))
 (.c Y1 (rec_ v.1 r116_.1 v.2.2.1 r116_.2.2) fun r117_ =>
 .l (.inl ((wrap .i64 (r116_.1 + 1)), (v.2.1, (v.2.2.1, ((decide ((wrap .i64 (Int.tdiv (wrap .i64 (v.2.1 - v.1)) (8 : Int))) ≤ (wrap .i64 (r116_.1 - v.1)))), (r116_.2.1, r117_)))))))
 (.c Y1 (rec_ (wrap .i64 (r116_.1 + 1)) v.2.1 v.2.2.1 r116_.2.2) fun r118_ =>
 .l (.inl (v.1, (r116_.1, (v.2.2.1, ((decide ((wrap .i64 (Int.tdiv (wrap .i64 (v.2.1 - v.1)) (8 : Int))) ≤ (wrap .i64 (v.2.1 - r116_.1)))), (r116_.2.1, r118_)))))))))
 (.c (Int × (Bool × Y1)) (wcb v.1 v.2.1 r78_.1 r113_.2) fun r119_ =>
 .g (!decide ((8 : Int) = 0)) <|
 .t (decide ((wrap .i64 (r119_.1 - v.1)) < (wrap .i64 (v.2.1 - r119_.1))))
 (.c Y1 (rec_ v.1 r119_.1 v.2.2.1 r119_.2.2) fun r120_ =>
 .l (.inl ((wrap .i64 (r119_.1 + 1)), (v.2.1, (v.2.2.1, ((decide ((wrap .i64 (Int.tdiv (wrap .i64 (v.2.1 - v.1)) (8 : Int))) ≤ (wrap .i64 (r119_.1 - v.1)))), (r119_.2.1, r120_)))))))
 (.c Y1 (rec_ (wrap .i64 (r119_.1 + 1)) v.2.1 v.2.2.1 r119_.2.2) fun r121_ =>
 .l (.inl (v.1, (r119_.1, (v.2.2.1, ((decide ((wrap .i64 (Int.tdiv (wrap .i64 (v.2.1 - v.1)) (8 : Int))) ≤ (wrap .i64 (v.2.1 - r119_.1)))), (r119_.2.1, r121_))))))))))
 (.t (decide (0 < v.1))
 (.g (inR (wrap .i64 (v.1 - 1)) (length v.2.2.2.2.2)) <|
 .g (decide ((toNat (wrap .i64 (v.1 - 1))) < length v.2.2.2.2.2)) <|
 .g (inR r78_.1 (length v.2.2.2.2.2)) <|
 .g (decide ((toNat r78_.1) < length v.2.2.2.2.2)) <|
 .c (Bool) (wgx (getD v.2.2.2.2.2 (toNat (wrap .i64 (v.1 - 1))) (0 : Int)) (getD v.2.2.2.2.2 (toNat r78_.1) 0)) fun r122_ =>
 .t (!r122_)
 (.c (Int × Y1) (wgn v.1 v.2.1 r78_.1 v.2.2.2.2.2) fun r123_ =>
 .l (.inl (r123_.1, (v.2.1, (v.2.2.1, (v.2.2.2.1, (v.2.2.2.2.1, r123_.2)))))))
 (.c (Int × (Bool × Y1)) (wcb v.1 v.2.1 r78_.1 v.2.2.2.2.2) fun r124_ =>
 .g (!decide ((8 : Int) = 0)) <|
 .t (decide ((wrap .i64 (r124_.1 - v.1)) < (wrap .i64 (v.2.1 - r124_.1))))
 (.c Y1 (rec_ v.1 r124_.1 v.2.2.1 r124_.2.2) fun r125_ =>
 .l (.inl ((wrap .i64 (r124_.1 + 1)), (v.2.1, (v.2.2.1, ((decide ((wrap .i64 (Int.tdiv (wrap .i64 (v.2.1 - v.1)) (8 : Int))) ≤ (wrap .i64 (r124_.1 - v.1)))), (r124_.2.1, r125_)))))))
 (.c Y1 (rec_ (wrap .i64 (r124_.1 + 1)) v.2.1 v.2.2.1 r124_.2.2) fun r126_ =>
 .l (.inl (v.1, (r124_.1, (v.2.2.1, ((decide ((wrap .i64 (Int.tdiv (wrap .i64 (v.2.1 - v.1)) (8 : Int))) ≤ (wrap .i64 (v.2.1 - r124_.1)))), (r124_.2.1, r126_)))))))))
 (.c (Int × (Bool × Y1)) (wcb v.1 v.2.1 r78_.1 v.2.2.2.2.2) fun r127_ =>
 .g (!decide ((8 : Int) = 0)) <|
 .t (decide ((wrap .i64 (r127_.1 - v.1)) < (wrap .i64 (v.2.1 - r127_.1))))
 (.c Y1 (rec_ v.1 r127_.1 v.2.2.1 r127_.2.2) fun r128_ =>
 .l (.inl ((wrap .i64 (r127_.1 + 1)), (v.2.1, (v.2.2.1, ((decide ((wrap .i64 (Int.tdiv (wrap .i64 (v.2.1 - v.1)) (8 : Int))) ≤ (wrap .i64 (r127_.1 - v.1)))), (r127_.2.1, r128_)))))))
 (.c Y1 (rec_ (wrap .i64 (r127_.1 + 1)) v.2.1 v.2.2.1 r127_.2.2) fun r129_ =>
 .l (.inl (v.1, (r127_.1, (v.2.2.1, ((decide ((wrap .i64 (Int.tdiv (wrap .i64 (v.2.1 - v.1)) (8 : Int))) ≤ (wrap .i64 (v.2.1 - r127_.1)))), (r127_.2.1, r129_))))))))))
 (.t (decide (0 < v.1))
 (.g (inR (wrap .i64 (v.1 - 1)) (length v.2.2.2.2.2)) <|
 .g (decide ((toNat (wrap .i64 (v.1 - 1))) < length v.2.2.2.2.2)) <|
 .g (inR r78_.1 (length v.2.2.2.2.2)) <|
 .g (decide ((toNat r78_.1) < length v.2.2.2.2.2)) <|
 .c (Bool) (wgx (getD v.2.2.2.2.2 (toNat (wrap .i64 (v.1 - 1))) (0 : Int)) (getD v.2.2.2.2.2 (toNat r78_.1) 0)) fun r130_ =>
 .t (!r130_)
 (.c (Int × Y1) (wgn v.1 v.2.1 r78_.1 v.2.2.2.2.2) fun r131_ =>
 .l (.inl (r131_.1, (v.2.1, (v.2.2.1, (v.2.2.2.1, (v.2.2.2.2.1, r131_.2)))))))
 (.c (Int × (Bool × Y1)) (wcb v.1 v.2.1 r78_.1 v.2.2.2.2.2) fun r132_ =>
 .g (!decide ((8 : Int) = 0)) <|
 .t (decide ((wrap .i64 (r132_.1 - v.1)) < (wrap .i64 (v.2.1 - r132_.1))))
 (.c Y1 (rec_ v.1 r132_.1 v.2.2.1 r132_.2.2) fun r133_ =>
 .l (.inl ((wrap .i64 (r132_.1 + 1)), (v.2.1, (v.2.2.1, ((decide ((wrap .i64 (Int.tdiv (wrap .i64 (v.2.1 - v.1)) (8 : Int))) ≤ (wrap .i64 (r132_.1 - v.1)))), (r132_.2.1, r133_)))))))
 (.c Y1 (rec_ (wrap .i64 (r132_.1 + 1)) v.2.1 v.2.2.1 r132_.2.2) fun r134_ =>
 .l (.inl (v.1, (r132_.1, (v.2.2.1, ((decide ((wrap .i64 (Int.tdiv (wrap .i64 (v.2.1 - v.1)) (8 : Int))) ≤ (wrap .i64 (v.2.1 - r132_.1)))), (r132_.2.1, r134_)))))))))
 (.c (Int × (Bool × Y1)) (wcb v.1 v.2.1 r78_.1 v.2.2.2.2.2) fun r135_ =>
 .g (!decide ((8 : Int) = 0)) <|
 .t (decide ((wrap .i64 (r135_.1 - v.1)) < (wrap .i64 (v.2.1 - r135_.1))))
 (.c Y1 (rec_ v.1 r135_.1 v.2.2.1 r135_.2.2) fun r136_ =>
 .l (.inl ((wrap .i64 (r135_.1 + 1)), (v.2.1, (v.2.2.1, ((decide ((wrap .i64 (Int.tdiv (wrap .i64 (v.2.1 - v.1)) (8 : Int))) ≤ (wrap .i64 (r135_.1 - v.1)))), (r135_.2.1, r136_)))))))
 (.c Y1 (rec_ (wrap .i64 (r135_.1 + 1)) v.2.1 v.2.2.1 r135_.2.2) fun r137_ =>
 .l (.inl (v.1, (r135_.1, (v.2.2.1, ((decide ((wrap .i64 (Int.tdiv (wrap .i64 (v.2.1 - v.1)) (8 : Int))) ≤ (wrap .i64 (v.2.1 - r135_.1)))), (r135_.2.1, r137_))))))))))
 (.t (decide (0 < v.1))
 (.g (inR (wrap .i64 (v.1 - 1)) (length v.2.2.2.2.2)) <|
 .g (decide ((toNat (wrap .i64 (v.1 - 1))) < length v.2.2.2.2.2)) <|
 .g (inR r78_.1 (length v.2.2.2.2.2)) <|
 .g (decide ((toNat r78_.1) < length v.2.2.2.2.2)) <|
 .c (Bool) (wgx (getD v.2.2.2.2.2 (toNat (wrap .i64 (v.1 - 1))) (0 : Int)) (getD v.2.2.2.2.2 (toNat r78_.1) 0)) fun r138_ =>
 .t (!r138_)
 (.c (Int × Y1) (wgn v.1 v.2.1 r78_.1 v.2.2.2.2.2) fun r139_ =>
 .l (.inl (r139_.1, (v.2.1, (v.2.2.1, (v.2.2.2.1, (v.2.2.2.2.1, r139_.2)))))))
 (.c (Int × (Bool × Y1)) (wcb v.1 v.2.1 r78_.1 v.2.2.2.2.2) fun r140_ =>
 .g (!decide ((8 : Int) = 0)) <|
 .t (decide ((wrap .i64 (r140_.1 - v.1)) < (wrap .i64 (v.2.1 - r140_.1))))
 (.c Y1 (rec_ v.1 r140_.1 v.2.2.1 r140_.2.2) fun r141_ =>
 .l (.inl ((wrap .i64 (r140_.1 + 1)), (v.2.1, (v.2.2.1, ((decide ((wrap .i64 (Int.tdiv (wrap .i64 (v.2.1 - v.1)) (8 : Int))) ≤ (wrap .i64 (r140_.1 - v.1)))), (r140_.2.1, r141_)))))))
 (.c Y1 (rec_ (wrap .i64 (r140_.1 + 1)) v.2.1 v.2.2.1 r140_.2.2) fun r142_ =>
 .l (.inl (v.1, (r140_.1, (v.2.2.1, ((decide ((wrap .i64 (Int.tdiv (wrap .i64 (v.2.1 - v.1)) (8 : Int))) ≤ (wrap .i64 (v.2.1 - r140_.1)))), (r140_.2.1, r142_)))))))))
 (.c (Int × (Bool × Y1)) (wcb v.1 v.2.1 r78_.1 v.2.2.2.2.2) fun r143_ =>
 .g (!decide ((8 : Int) = 0)) <|
 .t (decide ((wrap .i64 (r143_.1 - v.1)) < (wrap .i64 (v.2.1 - r143_.1))))
 (.c Y1 (rec_ v.1 r143_.1 v.2.2.1 r143_.2.2) fun r144_ =>
 .l (.inl ((wrap .i64 (r143_.1 + 1)), (v.2.1, (v.2.2.1, ((decide ((wrap .i64 (Int.tdiv (wrap .i64 (v.2.1 - v.1)) (8 : Int))) ≤ (wrap .i64 (r143_.1 - v.1)))), (r143_.2.1, r144_)))))))
 (.c Y1 (rec_ (wrap .i64 (r143_.1 + 1)) v.2.1 v.2.2.1 r143_.2.2) fun r145_ =>
 .l (.inl (v.1, (r143_.1, (v.2.2.1, ((decide ((wrap .i64 (Int.tdiv (wrap .i64 (v.2.1 - v.1)) (8 : Int))) ≤ (wrap .i64 (v.2.1 - r143_.1)))), (r143_.2.1, r145_)))))))))))))
noncomputable def wyn (rec_ : (Int) → (Int) → (Int) → Y1 → Option Y1) (k : Unit) (v : Int × (Int × (Int × (Bool × (Bool × Y1))))) : Option Y1 := iter (fun v => (wrp rec_ k v).ev) v
noncomputable def wadk (rec_ : (Int) → (Int) → (Int) → Y1 → Option Y1) : LD where
 head := { acts := [], S := { slots := [0, 1, 2, 3, 8, 9], sh := (yj [.arr 64, .dat yi, .dat yi, .dat yi, .dat .bool, .dat .bool]), obs := [(64, .arr 3 yi)] } }
 exits := []
 rets := { acts := [], S := { slots := [0], sh := (yj [.arr 64]), obs := [(64, .arr 3 yi)] } }
 K := Unit
 V := Int × (Int × (Int × (Bool × (Bool × Y1))))
 R := Y1
 join := fun _ v => (((), (v.1, (v.2.1, (v.2.2.1, (v.2.2.2.1, (v.2.2.2.2.1, ())))))), (v.2.2.2.2.2, ()))
 sk := fun _ => ()
 sv := fun t => (t.1.2.1, (t.1.2.2.1, (t.1.2.2.2.1, (t.1.2.2.2.2.1, (t.1.2.2.2.2.2.1, t.2.1)))))
 step := wrp rec_
 leaf := fun _ r => .l (.ret (wal ({ slots := [0], sh := (yj [.arr 64]), obs := [(64, .arr 3 yi)] }) (((), ()), (r, ()))))
noncomputable def wavu (rec_ : (Int) → (Int) → (Int) → Y1 → Option Y1) (a2_ : Int) (a3_ : Int) (a4_ : Int) (a1_ : Y1) : Tr Y1 :=
 .c Y1 (wyn rec_ () (a2_, (a3_, (a4_, (true, (true, a1_)))))) fun r147_ =>
 .l r147_
noncomputable def wlj : Nat → (Int) → (Int) → (Int) → Y1 → Option Y1
 | 0 => fun _ _ _ _ => none
 | n + 1 => fun a2_ a3_ a4_ a1_ => (wavu (wlj n) a2_ a3_ a4_ a1_).ev
noncomputable def wbzl : RetK := { acts := [], res := [], sh := .nil, obs := [(64, .arr 3 yi)], pins := [(0, 0, 64)] }
noncomputable def wazm (rec_ : (Int) → (Int) → (Int) → Y1 → Option Y1) : FD where
 A := (yj [.arr 64, .dat yi, .dat yi, .dat yi])
 ins := [(64, .arr 3 yi)]
 lend := [.arg 0]
 R := Y1
 F := fun x => rec_ x.1.2.1 x.1.2.2.1 x.1.2.2.2.1 x.2.1
 emb := fun r => ([], [(64, .arr 3 yi r)])
noncomputable def wbhq (n : Nat) : FD := wazm (wlj n)
noncomputable def wbhr (rec_ : (Int) → (Int) → (Int) → Y1 → Option Y1) : Env := wab [(275, wbgg), (276, wbgo), (277, wbgq), (278, wbgw), (279, wbgz), (280, wbhf), (281, D_zb), (282, wbhj), (283, wbhp), (264, wazm rec_)]
noncomputable def wbhs (rec_ : (Int) → (Int) → (Int) → Y1 → Option Y1) : List (Nat × LD) := [(0, wadk rec_)]
noncomputable def wavv : Code := (f264.body).getD .skip
noncomputable def wbht (a1_ : Y1) : Tr Y1 :=
 .c (Int) (wxk (wrap .u64 ((length a1_ : Nat) : Int))) fun r1_ =>
 .c Y1 (wlj 1000000 (0 : Int) ((length a1_ : Nat) : Int) r1_ a1_) fun r2_ =>
 .l r2_
noncomputable def wavw (a1_ : Y1) : Option Y1 := (wbht a1_).ev
noncomputable def wbzm : RetK := { acts := [], res := [], sh := .nil, obs := [(64, .arr 3 yi)], pins := [(0, 0, 64)] }
noncomputable def wbhu : FD := yd (yj [.arr 64]) [(64, .arr 3 yi)] [.arg 0] Y1 (fun x => wavw x.2.1) (fun r => ([], [(64, .arr 3 yi r)]))
noncomputable def wbhv (a1_ : Y1) : Tr Y1 :=
 .c (List Int) (wbnz a1_) fun r1_ =>
 .c Y1 (wavw r1_) fun r2_ =>
 .l r2_
noncomputable def wbhw (a1_ : Y1) : Option Y1 := (wbhv a1_).ev
noncomputable def wbzn : RetK := { acts := [.ren 320 0], res := [.tmp 2], sh := (yj [.arr 0]), obs := [(0, .arr 3 yi)], pins := [] }
noncomputable def wbhx : FD := yd (yj [.dat (.seq 242)]) [] [] Y1 (fun x => wbhw x.1.1) (fun r => ([.arr 0], [(0, .arr 3 yi r)]))
noncomputable def T_zy (a1_ : Y1) (a2_ : Int) : Tr (Bool) :=
 .t (((length a1_ : Nat) : Int) == a2_)
 (.c (List Int) (wbnx a1_) fun r1_ =>
 .c Y1 (wbhw r1_) fun r2_ =>
 .c (Bool) (F_zz r2_ a2_) fun r3_ =>
 .l r3_)
 (.l false)
noncomputable def F_zy (a1_ : Y1) (a2_ : Int) : Option (Bool) := (T_zy a1_ a2_).ev
noncomputable def K_zy : RetK := yr [.tmp 4] (yj [.dat .bool])
noncomputable def D_zy : FD := yd (yj [.dat y1, .dat yi]) [] [] Bool (fun x => F_zy x.1.1 x.1.2.1) (fun r => ([.dat .bool r], []))
noncomputable def T_zx (a1_ : Int) (a2_ : List Y1) (a3_ : Int) (a4_ : Int) : Tr (Bool) :=
 .g (inR a3_ (length a2_)) <|
 .g (inR a1_ (length (getD a2_ (toNat a3_) ([] : Y1)))) <|
 .l (decide (a4_ ≤ (getD (getD a2_ (toNat a3_) ([] : Y1)) (toNat a1_) (0 : Int))))
noncomputable def F_zx (a1_ : Int) (a2_ : List Y1) (a3_ : Int) (a4_ : Int) : Option (Bool) := (T_zx a1_ a2_ a3_ a4_).ev
noncomputable def K_zx : RetK := yr [.tmp 5] (yj [.dat .bool])
noncomputable def D_zx : FD := yd (yj [.dat yi, .ptr (yj [.dat y2]), .ptr (yj [.dat yi]), .ptr (yj [.dat yi])]) [] [] Bool (fun x => F_zx x.1.1 x.1.2.1.1 x.1.2.2.1.1 x.1.2.2.2.1.1) (fun r => ([.dat .bool r], []))
noncomputable def T_zw (a1_ : List Y1) (a2_ : Int) (a3_ : Y1) (a4_ : Int) : Tr (Bool) :=
 .c (Bool) (wafm a3_ (fun h1_ => Option.bind (F_zx h1_.1 a1_ a2_ a4_) fun y2_ => some y2_)) fun r3_ =>
 .l (!r3_)
noncomputable def F_zw (a1_ : List Y1) (a2_ : Int) (a3_ : Y1) (a4_ : Int) : Option (Bool) := (T_zw a1_ a2_ a3_ a4_).ev
noncomputable def K_zw : RetK := yr [.tmp 8] (yj [.dat .bool])
noncomputable def D_zw : FD := yd (yj [.dat y2, .dat yi, .dat y1, .dat yi]) [] [] Bool (fun x => F_zw x.1.1 x.1.2.1 x.1.2.2.1 x.1.2.2.2.1) (fun r => ([.dat .bool r], []))
noncomputable def T_zo (a1_ : Int) (a2_ : List Y1) (a3_ : Y1) (a4_ : Int) : Tr (Bool) :=
 .c (Bool) (F_zw a2_ a1_ a3_ a4_) fun r1_ =>
 .l (!r1_)
noncomputable def F_zo (a1_ : Int) (a2_ : List Y1) (a3_ : Y1) (a4_ : Int) : Option (Bool) := (T_zo a1_ a2_ a3_ a4_).ev
noncomputable def K_zo : RetK := yr [.tmp 5] (yj [.dat .bool])
noncomputable def D_zo : FD := yd (yj [.dat yi, .ptr (yj [.dat y2]), .ptr (yj [.dat y1]), .ptr (yj [.dat yi])]) [] [] Bool (fun x => F_zo x.1.1 x.1.2.1.1 x.1.2.2.1.1 x.1.2.2.2.1.1) (fun r => ([.dat .bool r], []))
noncomputable def woi (k : Y2 × (Int × (Y2 × Int))) (v : Int) : Tr ((Int) ⊕ ((Unit) ⊕ (Unit))) :=
 .t (decide (v < k.2.1))
 (.g (inR v (length k.1)) <|
 .t (((length (getD k.1 (toNat v) ([] : Y1)) : Nat) : Int) == (0 : Int))
 (.l (.inr (.inr ())))
 (.c (Bool) (wafm (getD k.1 (toNat v) ([] : Y1)) (fun h10_ => Option.bind (F_zo h10_.1 k.2.2.1 (getD k.1 (toNat v) ([] : Y1)) k.2.2.2) fun y11_ => some y11_)) fun r12_ =>
 .t r12_
 (.l (.inr (.inr ())))
 (.l (.inl (wrap .i64 (v + 1))))))
 (.l (.inr (.inl ())))
noncomputable def wazn (k : Y2 × (Int × (Y2 × Int))) (v : Int) : Option ((Unit) ⊕ (Unit)) := iter (fun v => (woi k v).ev) v
noncomputable def wand : LD := ⟨{ acts := [], S := { slots := [3, 5, 24, 25, 26], sh := (yj [.box 3 0, .box 5 0, .dat y2, .dat yi, .dat yi]), obs := [(3, .cells (yj [.dat y2])), (5, .cells (yj [.dat yi]))] } }, [(0, (yh [] .nil))], (yh [6, 7] (yj [.dat .bool, .dat .bool])), Y2 × (Int × (Y2 × Int)), Int, (Unit) ⊕ (Unit), fun k v => (((), ((), (k.1, (k.2.1, (v, ()))))), ((k.2.2.1, ()), ((k.2.2.2, ()), ()))), fun t => (t.1.2.2.1, (t.1.2.2.2.1, (t.2.1.1, t.2.2.1.1))), fun t => t.1.2.2.2.2.1, woi, fun _ r => .s (Unit) (Unit) r (fun _ => .l (.exit 0 (wal ((ys [] .nil)) ((), ())))) (fun _ => .l (.ret (wal ((ys [6, 7] (yj [.dat .bool, .dat .bool]))) ((false, (true, ())), ()))))⟩
noncomputable def T_zn (a1_ : List Y1) (a2_ : List Y1) (a3_ : Int) : Tr (Bool × (Bool)) :=
 .c (Bool) (F_zj a1_) fun r1_ =>
 .t (!r1_)
 (.l (false, false))
 (.c (Bool) (F_zt a3_ (1 : Int) (100 : Int)) fun r2_ =>
 .t (!r2_)
 (.l (false, false))
 (.c Y1 (wavf a2_) fun r3_ =>
 .c (Bool) (F_zy r3_ ((length a1_ : Nat) : Int)) fun r4_ =>
 .t (!r4_)
 (.l (false, true))
 (.c ((Unit) ⊕ (Unit)) (wazn (a2_, (((length a2_ : Nat) : Int), (a1_, a3_))) (0 : Int)) fun r15_ =>
 .s (Unit) (Unit) r15_
 (fun _ => .l (true, true))
 (fun _ => .l (false, true)))))
noncomputable def F_zn (a1_ : List Y1) (a2_ : List Y1) (a3_ : Int) : Option (Bool × (Bool)) := (T_zn a1_ a2_ a3_).ev
noncomputable def K_zn : RetK := yr [.tmp 6, .tmp 7] (yj [.dat .bool, .dat .bool])
noncomputable def D_zn : FD := yd (yj [.dat y2, .dat y2, .dat yi]) [] [] (Bool × (Bool)) (fun x => F_zn x.1.1 x.1.2.1 x.1.2.2.1) (fun r => ([.dat .bool r.1, .dat .bool r.2], []))
noncomputable def E_zn : Env := wab [(30, D_zj), (104, D_zt), (125, wbge), (124, D_zy), (126, wuq), (126, wuq), (127, D_zo)]
noncomputable def O_zn : List (Nat × LD) := [(0, wand)]
noncomputable def C_zn : Code := (f36.body).getD .skip
noncomputable def wkm (k : Y2 × (Y2 × (Int × (Int × (Int × Y1))))) (v : Int) : Tr ((Int) ⊕ ((Unit) ⊕ (Unit))) :=
 .t (decide (v < k.2.2.2.2.1))
 (.g (inR k.2.2.2.1 (length k.2.1)) <|
 .g (inR k.2.2.2.2.1 (length (getD k.2.1 (toNat k.2.2.2.1) ([] : Y1)))) <|
 .g (inR (getD (getD k.2.1 (toNat k.2.2.2.1) ([] : Y1)) (toNat k.2.2.2.2.1) (0 : Int)) (length k.1)) <|
 .g (inR k.2.2.2.1 (length k.2.1)) <|
 .g (inR v (length (getD k.2.1 (toNat k.2.2.2.1) ([] : Y1)))) <|
 .g (inR (getD (getD k.2.1 (toNat k.2.2.2.1) ([] : Y1)) (toNat v) (0 : Int)) (length (getD k.1 (toNat (getD (getD k.2.1 (toNat k.2.2.2.1) ([] : Y1)) (toNat k.2.2.2.2.1) (0 : Int))) ([] : Y1)))) <|
 .t (decide (k.2.2.1 ≤ (getD (getD k.1 (toNat (getD (getD k.2.1 (toNat k.2.2.2.1) ([] : Y1)) (toNat k.2.2.2.2.1) (0 : Int))) ([] : Y1)) (toNat (getD (getD k.2.1 (toNat k.2.2.2.1) ([] : Y1)) (toNat v) (0 : Int))) (0 : Int))))
 (.l (.inr (.inr ())))
 (.l (.inl (wrap .i64 (v + 1)))))
 (.l (.inr (.inl ())))
noncomputable def wane (k : Y2 × (Y2 × (Int × (Int × (Int × Y1))))) (v : Int) : Option ((Unit) ⊕ (Unit)) := iter (fun v => (wkm k v).ev) v
noncomputable def wadl : LD := ⟨{ acts := [], S := { slots := [0, 1, 2, 8, 9, 10, 11], sh := (yj [.dat y2, .dat y2, .dat yi, .arr 20, .dat yi, .dat yi, .dat yi]), obs := [(20, .arr 3 yi)] } }, [(4, { acts := [], S := { slots := [0, 1, 2, 8, 9, 10], sh := (yj [.dat y2, .dat y2, .dat yi, .arr 20, .dat yi, .dat yi]), obs := [(20, .arr 3 yi)] } })], (yh [6, 7] (yj [.dat .bool, .dat .bool])), Y2 × (Y2 × (Int × (Int × (Int × Y1)))), Int, (Unit) ⊕ (Unit), fun k v => ((k.1, (k.2.1, (k.2.2.1, ((), (k.2.2.2.1, (k.2.2.2.2.1, (v, ()))))))), (k.2.2.2.2.2, ())), fun t => (t.1.1, (t.1.2.1, (t.1.2.2.1, (t.1.2.2.2.2.1, (t.1.2.2.2.2.2.1, t.2.1))))), fun t => t.1.2.2.2.2.2.2.1, wkm, fun k r => .s (Unit) (Unit) r (fun _ => .l (.exit 4 (wal ({ slots := [0, 1, 2, 8, 9, 10], sh := (yj [.dat y2, .dat y2, .dat yi, .arr 20, .dat yi, .dat yi]), obs := [(20, .arr 3 yi)] }) ((k.1, (k.2.1, (k.2.2.1, ((), (k.2.2.2.1, (k.2.2.2.2.1, ())))))), (k.2.2.2.2.2, ()))))) (fun _ => .l (.ret (wal ((ys [6, 7] (yj [.dat .bool, .dat .bool]))) ((false, (true, ())), ()))))⟩
noncomputable def wgo (k : Y2 × (Y2 × (Int × Int))) (v : Int × Y1) : Tr ((Int × Y1) ⊕ (Y1 ⊕ (Unit))) :=
 .g (inR k.2.2.2 (length k.2.1)) <|
 .t (decide (v.1 < ((length (getD k.2.1 (toNat k.2.2.2) ([] : Y1)) : Nat) : Int)))
 (.g (inR k.2.2.2 (length k.2.1)) <|
 .g (inR v.1 (length (getD k.2.1 (toNat k.2.2.2) ([] : Y1)))) <|
 .c (Bool) (wuw (getD (getD k.2.1 (toNat k.2.2.2) ([] : Y1)) (toNat v.1) (0 : Int)) (0 : Int) (wrap .i64 (((length k.1 : Nat) : Int) - 1))) fun r14_ =>
 .t (!r14_)
 (.l (.inr (.inr ())))
 (.g (inR k.2.2.2 (length k.2.1)) <|
 .g (inR v.1 (length (getD k.2.1 (toNat k.2.2.2) ([] : Y1)))) <|
 .c (Bool) (wyf v.2 (getD (getD k.2.1 (toNat k.2.2.2) ([] : Y1)) (toNat v.1) (0 : Int))) fun r15_ =>
 .t r15_
 (.l (.inr (.inr ())))
 (.g (inR k.2.2.2 (length k.2.1)) <|
 .g (inR v.1 (length (getD k.2.1 (toNat k.2.2.2) ([] : Y1)))) <|
 .g (decide ((length v.2 + length ([(getD (getD k.2.1 (toNat k.2.2.2) ([] : Y1)) (toNat v.1) (0 : Int))] : Y1)) * 8 ≤ 140737488355328)) <|
 .c ((Unit) ⊕ (Unit)) (wane (k.1, (k.2.1, (k.2.2.1, (k.2.2.2, (v.1, (v.2 ++ ([(getD (getD k.2.1 (toNat k.2.2.2) ([] : Y1)) (toNat v.1) (0 : Int))] : Y1))))))) (0 : Int)) fun r31_ =>
 .s (Unit) (Unit) r31_
 (fun _ => .l (.inl ((wrap .i64 (v.1 + 1)), (v.2 ++ ([(getD (getD k.2.1 (toNat k.2.2.2) ([] : Y1)) (toNat v.1) (0 : Int))] : Y1)))))
 (fun _ => .l (.inr (.inr ()))))))
 (.l (.inr (.inl v.2)))
noncomputable def wanf (k : Y2 × (Y2 × (Int × Int))) (v : Int × Y1) : Option (Y1 ⊕ (Unit)) := iter (fun v => (wgo k v).ev) v
noncomputable def wadm : LD := ⟨{ acts := [], S := { slots := [0, 1, 2, 8, 9, 10], sh := (yj [.dat y2, .dat y2, .dat yi, .arr 20, .dat yi, .dat yi]), obs := [(20, .arr 3 yi)] } }, [(2, { acts := [], S := { slots := [0, 1, 2, 8, 9], sh := (yj [.dat y2, .dat y2, .dat yi, .arr 20, .dat yi]), obs := [(20, .arr 3 yi)] } })], (yh [6, 7] (yj [.dat .bool, .dat .bool])), Y2 × (Y2 × (Int × Int)), Int × Y1, Y1 ⊕ (Unit), fun k v => ((k.1, (k.2.1, (k.2.2.1, ((), (k.2.2.2, (v.1, ())))))), (v.2, ())), fun t => (t.1.1, (t.1.2.1, (t.1.2.2.1, t.1.2.2.2.2.1))), fun t => (t.1.2.2.2.2.2.1, t.2.1), wgo, fun k r => .s Y1 (Unit) r (fun a => .l (.exit 2 (wal ({ slots := [0, 1, 2, 8, 9], sh := (yj [.dat y2, .dat y2, .dat yi, .arr 20, .dat yi]), obs := [(20, .arr 3 yi)] }) ((k.1, (k.2.1, (k.2.2.1, ((), (k.2.2.2, ()))))), (a, ()))))) (fun _ => .l (.ret (wal ((ys [6, 7] (yj [.dat .bool, .dat .bool]))) ((false, (true, ())), ()))))⟩
noncomputable def wia (k : Y2 × (Y2 × Int)) (v : Int × Y1) : Tr ((Int × Y1) ⊕ (Y1 ⊕ (Unit))) :=
 .t (decide (v.1 < ((length k.2.1 : Nat) : Int)))
 (.c (Y1 ⊕ (Unit)) (wanf (k.1, (k.2.1, (k.2.2, v.1))) ((0 : Int), v.2)) fun r41_ =>
 .s Y1 (Unit) r41_
 (fun r42_ => .g (inR v.1 (length k.2.1)) <|
 .t (((length (getD k.2.1 (toNat v.1) ([] : Y1)) : Nat) : Int) == (0 : Int))
 (.l (.inr (.inr ())))
 (.l (.inl ((wrap .i64 (v.1 + 1)), r42_))))
 (fun _ => .l (.inr (.inr ()))))
 (.l (.inr (.inl v.2)))
noncomputable def wang (k : Y2 × (Y2 × Int)) (v : Int × Y1) : Option (Y1 ⊕ (Unit)) := iter (fun v => (wia k v).ev) v
noncomputable def wadn : LD := ⟨{ acts := [], S := { slots := [0, 1, 2, 8, 9], sh := (yj [.dat y2, .dat y2, .dat yi, .arr 20, .dat yi]), obs := [(20, .arr 3 yi)] } }, [(0, { acts := [], S := { slots := [0, 8], sh := (yj [.dat y2, .arr 20]), obs := [(20, .arr 3 yi)] } })], (yh [6, 7] (yj [.dat .bool, .dat .bool])), Y2 × (Y2 × Int), Int × Y1, Y1 ⊕ (Unit), fun k v => ((k.1, (k.2.1, (k.2.2, ((), (v.1, ()))))), (v.2, ())), fun t => (t.1.1, (t.1.2.1, t.1.2.2.1)), fun t => (t.1.2.2.2.2.1, t.2.1), wia, fun k r => .s Y1 (Unit) r (fun a => .l (.exit 0 (wal ({ slots := [0, 8], sh := (yj [.dat y2, .arr 20]), obs := [(20, .arr 3 yi)] }) ((k.1, ((), ())), (a, ()))))) (fun _ => .l (.ret (wal ((ys [6, 7] (yj [.dat .bool, .dat .bool]))) ((false, (true, ())), ()))))⟩
noncomputable def wbhz (a1_ : List Y1) (a2_ : List Y1) (a3_ : Int) : Tr (Bool × (Bool)) :=
 .c (Bool) (wux a1_) fun r1_ =>
 .t (!r1_)
 (.l (false, false))
 (.c (Bool) (waly a3_) fun r2_ =>
 .t (!r2_)
 (.l (false, false))
 (.c (Y1 ⊕ (Unit)) (wang (a1_, (a2_, a3_)) ((0 : Int), ([] : Y1))) fun r48_ =>
 .s Y1 (Unit) r48_
 (fun r49_ => .l ((((length r49_ : Nat) : Int) == ((length a1_ : Nat) : Int)), true))
 (fun _ => .l (false, true))))
noncomputable def wvg (a1_ : List Y1) (a2_ : List Y1) (a3_ : Int) : Option (Bool × (Bool)) := (wbhz a1_ a2_ a3_).ev
noncomputable def wbzx : RetK := yr [.tmp 6, .tmp 7] (yj [.dat .bool, .dat .bool])
noncomputable def wbia : FD := yd (yj [.dat y2, .dat y2, .dat yi]) [] [] (Bool × (Bool)) (fun x => wvg x.1.1 x.1.2.1 x.1.2.2.1) (fun r => ([.dat .bool r.1, .dat .bool r.2], []))
noncomputable def wanh : Env := wab [(114, wxz), (129, wavc), (130, wxy), (112, wauo)]
noncomputable def wani : List (Nat × LD) := [(4, wadl), (2, wadm), (0, wadn)]
noncomputable def wvh : Code := (f37.body).getD .skip
end Go.Proofs.YtnagpmhaddfgmaaGreat
