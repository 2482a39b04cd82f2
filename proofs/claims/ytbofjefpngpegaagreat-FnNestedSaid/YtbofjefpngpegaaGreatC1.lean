import Derived.Test.YtbofjefpngpegaaGreatC3
import Derived.Test.YtbofjefpngpegaaGreatProg
namespace Go.Proofs.YtbofjefpngpegaaGreat
open Go.Proofs.Tryz
noncomputable def wavs (a1_ : Y1) (a2_ : Int) : Tr (Bool) :=
 .t (((List.length a1_ : Nat) : Int) == a2_)
 (.c (List Int) (wava a1_) fun r1_ =>
 .c Y1 (wacq r1_) fun r2_ =>
 .c (Bool) (wair r2_ a2_) fun r3_ =>
 .l r3_)
 (.l false)
noncomputable def wavt (a1_ : Y1) (a2_ : Int) : Option (Bool) := (wavs a1_ a2_).ev
noncomputable def wbrm : Sh := (.cons (.dat y1) (.cons (.dat yi) .nil))
noncomputable def wbrn : List (Nat × OSh) := []
noncomputable def K_zaa : RetK := { acts := [], res := [.tmp 4], sh := (.cons (.dat .bool) .nil), obs := [], pins := [] }
noncomputable def D_zaa : FD := ⟨wbrm, wbrn, [], Bool, fun x => wavt x.1.1 x.1.2.1, fun r => ([.dat .bool r], [])⟩
noncomputable def wbij : Env := wae [(93, wbgf), (92, D_zau), (106, D_zab)]
noncomputable def wbik : Nat → Nat → List Nat := fun _ _ => []
noncomputable def wbil : List (Nat × LD) := []
noncomputable def wbim : Code := (f88.body).getD .skip
noncomputable def T_zu (a1_ : Int) (a2_ : Int) : Tr (Bool) :=
 .g (decide ((0 : Int) ≤ a2_)) <|
 .l ((IntKind.wrap .u64 (BitVec.toNat ((BitVec.ofInt (IntKind.bits .u64) (Int.fdiv a1_ (2 ^ (min (Int.toNat a2_) (IntKind.bits .u64))))) &&& (BitVec.ofInt (IntKind.bits .u64) (1 : Int))))) == (1 : Int))
noncomputable def F_zu (a1_ : Int) (a2_ : Int) : Option (Bool) := (T_zu a1_ a2_).ev
def A_zu : Sh := (.cons (.dat (.int .u64)) (.cons (.dat yi) .nil))
def I_zu : List (Nat × OSh) := []
noncomputable def K_zu : RetK := { acts := [], res := [.tmp 4], sh := (.cons (.dat .bool) .nil), obs := [], pins := [] }
noncomputable def D_zu : FD := ⟨A_zu, I_zu, [], Bool, fun x => F_zu x.1.1 x.1.2.1, fun r => ([.dat .bool r], [])⟩
noncomputable def E_zu : Env := wae []
def Z_zu : Nat → Nat → List Nat := fun _ _ => []
noncomputable def O_zu : List (Nat × LD) := []
noncomputable def C_zu : Code := (f68.body).getD .skip
noncomputable def waao (k : Int) (v : Int × Y1) : Tr ((Int × Y1) ⊕ Y1) :=
 .g (decide ((0 : Int) ≤ v.1)) <|
 .t (decide ((0 : Int) < (Int.fdiv k (2 ^ (min (Int.toNat v.1) (IntKind.bits .u64))))))
 (.c (Bool) (F_zu k v.1) fun r4_ =>
 .t r4_
 (.g (decide ((List.length v.2 + List.length ([v.1] : Y1)) * 8 ≤ 140737488355328)) <|
 .l (.inl ((IntKind.wrap .i64 (v.1 + (1 : Int))), (v.2 ++ ([v.1] : Y1)))))
 (.l (.inl ((IntKind.wrap .i64 (v.1 + (1 : Int))), v.2))))
 (.l (.inr v.2))
noncomputable def waiu (k : Int) (v : Int × Y1) : Option Y1 := iter (fun v => (waao k v).ev) v
noncomputable def wxw : LD := ⟨{ acts := [], S := { slots := [0, 3, 4], sh := (.cons (.dat (.int .u64)) (.cons (.arr 5) (.cons (.dat yi) .nil))), obs := [(5, .arr 3 yi)] } }, [(0, { acts := [], S := { slots := [3], sh := (.cons (.arr 5) .nil), obs := [(5, .arr 3 yi)] } })], (yh [] .nil), Int, Int × Y1, Y1, fun k v => ((k, ((), (v.1, ()))), (v.2, ())), fun t => t.1.1, fun t => (t.1.2.2.1, t.2.1), waao, fun _ r => .l (.exit 0 (wav ({ slots := [3], sh := (.cons (.arr 5) .nil), obs := [(5, .arr 3 yi)] }) (((), ()), (r, ()))))⟩
noncomputable def T_zv (a1_ : Int) : Tr Y1 :=
 .c Y1 (waiu a1_ ((0 : Int), ([] : Y1))) fun r6_ =>
 .l r6_
noncomputable def F_zv (a1_ : Int) : Option Y1 := (T_zv a1_).ev
def A_zv : Sh := (.cons (.dat (.int .u64)) .nil)
def I_zv : List (Nat × OSh) := []
noncomputable def K_zv : RetK := { acts := [.ren 5 0], res := [.tmp 2], sh := (.cons (.arr 0) .nil), obs := [(0, .arr 3 yi)], pins := [] }
noncomputable def D_zv : FD := ⟨A_zv, I_zv, [], Y1, fun x => F_zv x.1.1, fun r => ([.arr 0], [(0, .arr 3 yi r)])⟩
noncomputable def E_zv : Env := wae [(68, D_zu)]
def Z_zv : Nat → Nat → List Nat := fun _ _ => []
noncomputable def O_zv : List (Nat × LD) := [(0, wxw)]
noncomputable def C_zv : Code := (f69.body).getD .skip
noncomputable def wqo (k : Int × (Int × (((HL [y1, y1] → Option (Int))) × Int))) (v : Int × ((List Nat) × Y2)) : Tr ((Int × ((List Nat) × Y2)) ⊕ ((List Nat) × Y2)) :=
 .t (decide (k.1 < v.1))
 (.g (inR v.1 (List.length v.2.1)) <|
 .g (decide ((Int.toNat v.1) < List.length v.2.1) && decide ((List.getD v.2.1 (Int.toNat v.1) 0) < List.length v.2.2)) <|
 .g (inR (IntKind.wrap .i64 (v.1 - (1 : Int))) (List.length v.2.1)) <|
 .g (decide ((Int.toNat (IntKind.wrap .i64 (v.1 - (1 : Int)))) < List.length v.2.1) && decide ((List.getD v.2.1 (Int.toNat (IntKind.wrap .i64 (v.1 - (1 : Int)))) 0) < List.length v.2.2)) <|
 .c (Int) (k.2.2.1 ((List.getD v.2.2 (List.getD v.2.1 (Int.toNat v.1) 0) ([] : Y1)), ((List.getD v.2.2 (List.getD v.2.1 (Int.toNat (IntKind.wrap .i64 (v.1 - (1 : Int)))) 0) ([] : Y1)), ()))) fun r12_ =>
 .t (decide (r12_ < (0 : Int)))
 (.g (inR (IntKind.wrap .i64 (v.1 - (1 : Int))) (List.length v.2.1)) <|
 .g (decide ((Int.toNat (IntKind.wrap .i64 (v.1 - (1 : Int)))) < List.length v.2.1) && decide ((List.getD v.2.1 (Int.toNat (IntKind.wrap .i64 (v.1 - (1 : Int)))) 0) < List.length v.2.2)) <|
 .g (inR v.1 (List.length v.2.1)) <|
 .g (decide ((Int.toNat v.1) < List.length v.2.1) && decide ((List.getD v.2.1 (Int.toNat v.1) 0) < List.length v.2.2)) <|
 .g (inR v.1 (List.length v.2.1)) <|
 .g (decide ((Int.toNat v.1) < List.length v.2.1)) <|
 .g (inR (IntKind.wrap .i64 (v.1 - (1 : Int))) (List.length (List.set v.2.1 (Int.toNat v.1) (List.getD v.2.1 (Int.toNat (IntKind.wrap .i64 (v.1 - (1 : Int)))) 0)))) <|
 .g (decide ((Int.toNat (IntKind.wrap .i64 (v.1 - (1 : Int)))) < List.length (List.set v.2.1 (Int.toNat v.1) (List.getD v.2.1 (Int.toNat (IntKind.wrap .i64 (v.1 - (1 : Int)))) 0)))) <|
 .l (.inl ((IntKind.wrap .i64 (v.1 - (1 : Int))), ((List.set (List.set v.2.1 (Int.toNat v.1) (List.getD v.2.1 (Int.toNat (IntKind.wrap .i64 (v.1 - (1 : Int)))) 0)) (Int.toNat (IntKind.wrap .i64 (v.1 - (1 : Int)))) (List.getD v.2.1 (Int.toNat v.1) 0)), v.2.2))))
 (.l (.inr v.2)))
 (.l (.inr v.2))
noncomputable def wxx (k : Int × (Int × (((HL [y1, y1] → Option (Int))) × Int))) (v : Int × ((List Nat) × Y2)) : Option ((List Nat) × Y2) := iter (fun v => (wqo k v).ev) v
noncomputable def wqp : LD := ⟨{ acts := [], S := { slots := [0, 1, 2, 3, 8, 9], sh := (.cons (.arr 64) (.cons (.dat yi) (.cons (.dat yi) (.cons (.clo [y1, y1] yi) (.cons (.dat yi) (.cons (.dat yi) .nil)))))), obs := [(64, .perm 22 3 yi)] } }, [(2, { acts := [], S := { slots := [0, 1, 2, 3, 8], sh := (.cons (.arr 64) (.cons (.dat yi) (.cons (.dat yi) (.cons (.clo [y1, y1] yi) (.cons (.dat yi) .nil))))), obs := [(64, .perm 22 3 yi)] } })], (yh [] .nil), Int × (Int × (((HL [y1, y1] → Option (Int))) × Int)), Int × ((List Nat) × Y2), (List Nat) × Y2, fun k v => (((), (k.1, (k.2.1, (k.2.2.1, (k.2.2.2, (v.1, ())))))), (v.2, ())), fun t => (t.1.2.1, (t.1.2.2.1, (t.1.2.2.2.1, t.1.2.2.2.2.1))), fun t => (t.1.2.2.2.2.2.1, t.2.1), wqo, fun k r => .l (.exit 2 (wav ({ slots := [0, 1, 2, 3, 8], sh := (.cons (.arr 64) (.cons (.dat yi) (.cons (.dat yi) (.cons (.clo [y1, y1] yi) (.cons (.dat yi) .nil))))), obs := [(64, .perm 22 3 yi)] }) (((), (k.1, (k.2.1, (k.2.2.1, (k.2.2.2, ()))))), (r, ()))))⟩
noncomputable def wqq (k : Int × (Int × ((HL [y1, y1] → Option (Int))))) (v : Int × ((List Nat) × Y2)) : Tr ((Int × ((List Nat) × Y2)) ⊕ ((List Nat) × Y2)) :=
 .t (decide (v.1 < k.2.1))
 (.c ((List Nat) × Y2) (wxx (k.1, (k.2.1, (k.2.2, v.1))) (v.1, v.2)) fun r18_ =>
 .l (.inl ((IntKind.wrap .i64 (v.1 + (1 : Int))), r18_)))
 (.l (.inr v.2))
noncomputable def wxy (k : Int × (Int × ((HL [y1, y1] → Option (Int))))) (v : Int × ((List Nat) × Y2)) : Option ((List Nat) × Y2) := iter (fun v => (wqq k v).ev) v
noncomputable def wqr : LD := ⟨{ acts := [], S := { slots := [0, 1, 2, 3, 8], sh := (.cons (.arr 64) (.cons (.dat yi) (.cons (.dat yi) (.cons (.clo [y1, y1] yi) (.cons (.dat yi) .nil))))), obs := [(64, .perm 22 3 yi)] } }, [(0, { acts := [], S := { slots := [0], sh := (.cons (.arr 64) .nil), obs := [(64, .perm 22 3 yi)] } })], (yh [] .nil), Int × (Int × ((HL [y1, y1] → Option (Int)))), Int × ((List Nat) × Y2), (List Nat) × Y2, fun k v => (((), (k.1, (k.2.1, (k.2.2, (v.1, ()))))), (v.2, ())), fun t => (t.1.2.1, (t.1.2.2.1, t.1.2.2.2.1)), fun t => (t.1.2.2.2.2.1, t.2.1), wqq, fun _ r => .l (.exit 0 (wav ({ slots := [0], sh := (.cons (.arr 64) .nil), obs := [(64, .perm 22 3 yi)] }) (((), ()), (r, ()))))⟩
noncomputable def waiv (a2_ : Int) (a3_ : Int) (a4_ : (HL [y1, y1] → Option (Int))) (a1_ : (List Nat) × Y2) : Tr ((List Nat) × Y2) :=
 .c ((List Nat) × Y2) (wxy (a2_, (a3_, a4_)) ((IntKind.wrap .i64 (a2_ + (1 : Int))), a1_)) fun r20_ =>
 .l r20_
noncomputable def wavu (a2_ : Int) (a3_ : Int) (a4_ : (HL [y1, y1] → Option (Int))) (a1_ : (List Nat) × Y2) : Option ((List Nat) × Y2) := (waiv a2_ a3_ a4_ a1_).ev
noncomputable def wbrr : Sh := (.cons (.arr 64) (.cons (.dat yi) (.cons (.dat yi) (.cons (.clo [y1, y1] yi) .nil))))
noncomputable def wbrs : List (Nat × OSh) := [(64, .perm 22 3 yi)]
noncomputable def K_zba : RetK := { acts := [], res := [], sh := .nil, obs := [(64, .perm 22 3 yi)], pins := [(0, 0, 64)] }
noncomputable def D_zba : FD := ⟨wbrr, wbrs, [.arg 0], (List Nat) × Y2, fun x => wavu x.1.2.1 x.1.2.2.1 x.1.2.2.2.1 x.2.1, fun r => ([], [(64, .perm false 22 3 yi r.1 r.2)])⟩
noncomputable def waiw : Env := wae []
noncomputable def waix : Nat → Nat → List Nat := fun _ _ => []
noncomputable def waiy : List (Nat × LD) := [(2, wqp), (0, wqr)]
noncomputable def wacr : Code := (f215.body).getD .skip
noncomputable def wqs (k : Int × (Int × Int)) (v : Int × (((List Nat) × Y2) × Int)) : Tr ((Int × (((List Nat) × Y2) × Int)) ⊕ ((List Nat) × Y2)) :=
 .g (!decide ((4 : Int) = 0)) <|
 .t (decide (v.1 ≤ (IntKind.wrap .i64 ((IntKind.wrap .i64 (k.1 + (IntKind.wrap .i64 ((IntKind.wrap .i64 (Int.tdiv k.2.1 (4 : Int))) * (2 : Int))))) + (1 : Int)))))
 (.c (Int × Int) (waie v.2.2) fun r8_ =>
 .t (decide (k.2.1 ≤ (IntKind.wrap .i64 (IntKind.wrap .u64 (BitVec.toNat ((BitVec.ofInt (IntKind.bits .u64) r8_.1) &&& (BitVec.ofInt (IntKind.bits .u64) (IntKind.wrap .u64 (k.2.2 - (1 : Int))))))))))
 (.g (inR (IntKind.wrap .i64 (k.1 + (IntKind.wrap .i64 ((IntKind.wrap .i64 (IntKind.wrap .u64 (BitVec.toNat ((BitVec.ofInt (IntKind.bits .u64) r8_.1) &&& (BitVec.ofInt (IntKind.bits .u64) (IntKind.wrap .u64 (k.2.2 - (1 : Int)))))))) - k.2.1)))) (List.length v.2.1.1)) <|
 .g (decide ((Int.toNat (IntKind.wrap .i64 (k.1 + (IntKind.wrap .i64 ((IntKind.wrap .i64 (IntKind.wrap .u64 (BitVec.toNat ((BitVec.ofInt (IntKind.bits .u64) r8_.1) &&& (BitVec.ofInt (IntKind.bits .u64) (IntKind.wrap .u64 (k.2.2 - (1 : Int)))))))) - k.2.1))))) < List.length v.2.1.1) && decide ((List.getD v.2.1.1 (Int.toNat (IntKind.wrap .i64 (k.1 + (IntKind.wrap .i64 ((IntKind.wrap .i64 (IntKind.wrap .u64 (BitVec.toNat ((BitVec.ofInt (IntKind.bits .u64) r8_.1) &&& (BitVec.ofInt (IntKind.bits .u64) (IntKind.wrap .u64 (k.2.2 - (1 : Int)))))))) - k.2.1))))) 0) < List.length v.2.1.2)) <|
 .g (inR v.1 (List.length v.2.1.1)) <|
 .g (decide ((Int.toNat v.1) < List.length v.2.1.1) && decide ((List.getD v.2.1.1 (Int.toNat v.1) 0) < List.length v.2.1.2)) <|
 .g (inR v.1 (List.length v.2.1.1)) <|
 .g (decide ((Int.toNat v.1) < List.length v.2.1.1)) <|
 .g (inR (IntKind.wrap .i64 (k.1 + (IntKind.wrap .i64 ((IntKind.wrap .i64 (IntKind.wrap .u64 (BitVec.toNat ((BitVec.ofInt (IntKind.bits .u64) r8_.1) &&& (BitVec.ofInt (IntKind.bits .u64) (IntKind.wrap .u64 (k.2.2 - (1 : Int)))))))) - k.2.1)))) (List.length (List.set v.2.1.1 (Int.toNat v.1) (List.getD v.2.1.1 (Int.toNat (IntKind.wrap .i64 (k.1 + (IntKind.wrap .i64 ((IntKind.wrap .i64 (IntKind.wrap .u64 (BitVec.toNat ((BitVec.ofInt (IntKind.bits .u64) r8_.1) &&& (BitVec.ofInt (IntKind.bits .u64) (IntKind.wrap .u64 (k.2.2 - (1 : Int)))))))) - k.2.1))))) 0)))) <|
 .g (decide ((Int.toNat (IntKind.wrap .i64 (k.1 + (IntKind.wrap .i64 ((IntKind.wrap .i64 (IntKind.wrap .u64 (BitVec.toNat ((BitVec.ofInt (IntKind.bits .u64) r8_.1) &&& (BitVec.ofInt (IntKind.bits .u64) (IntKind.wrap .u64 (k.2.2 - (1 : Int)))))))) - k.2.1))))) < List.length (List.set v.2.1.1 (Int.toNat v.1) (List.getD v.2.1.1 (Int.toNat (IntKind.wrap .i64 (k.1 + (IntKind.wrap .i64 ((IntKind.wrap .i64 (IntKind.wrap .u64 (BitVec.toNat ((BitVec.ofInt (IntKind.bits .u64) r8_.1) &&& (BitVec.ofInt (IntKind.bits .u64) (IntKind.wrap .u64 (k.2.2 - (1 : Int)))))))) - k.2.1))))) 0)))) <|
 .l (.inl ((IntKind.wrap .i64 (v.1 + (1 : Int))), (((List.set (List.set v.2.1.1 (Int.toNat v.1) (List.getD v.2.1.1 (Int.toNat (IntKind.wrap .i64 (k.1 + (IntKind.wrap .i64 ((IntKind.wrap .i64 (IntKind.wrap .u64 (BitVec.toNat ((BitVec.ofInt (IntKind.bits .u64) r8_.1) &&& (BitVec.ofInt (IntKind.bits .u64) (IntKind.wrap .u64 (k.2.2 - (1 : Int)))))))) - k.2.1))))) 0)) (Int.toNat (IntKind.wrap .i64 (k.1 + (IntKind.wrap .i64 ((IntKind.wrap .i64 (IntKind.wrap .u64 (BitVec.toNat ((BitVec.ofInt (IntKind.bits .u64) r8_.1) &&& (BitVec.ofInt (IntKind.bits .u64) (IntKind.wrap .u64 (k.2.2 - (1 : Int)))))))) - k.2.1))))) (List.getD v.2.1.1 (Int.toNat v.1) 0)), v.2.1.2), r8_.2))))
 (.g (inR (IntKind.wrap .i64 (k.1 + (IntKind.wrap .i64 (IntKind.wrap .u64 (BitVec.toNat ((BitVec.ofInt (IntKind.bits .u64) r8_.1) &&& (BitVec.ofInt (IntKind.bits .u64) (IntKind.wrap .u64 (k.2.2 - (1 : Int)))))))))) (List.length v.2.1.1)) <|
 .g (decide ((Int.toNat (IntKind.wrap .i64 (k.1 + (IntKind.wrap .i64 (IntKind.wrap .u64 (BitVec.toNat ((BitVec.ofInt (IntKind.bits .u64) r8_.1) &&& (BitVec.ofInt (IntKind.bits .u64) (IntKind.wrap .u64 (k.2.2 - (1 : Int))))))))))) < List.length v.2.1.1) && decide ((List.getD v.2.1.1 (Int.toNat (IntKind.wrap .i64 (k.1 + (IntKind.wrap .i64 (IntKind.wrap .u64 (BitVec.toNat ((BitVec.ofInt (IntKind.bits .u64) r8_.1) &&& (BitVec.ofInt (IntKind.bits .u64) (IntKind.wrap .u64 (k.2.2 - (1 : Int))))))))))) 0) < List.length v.2.1.2)) <|
 .g (inR v.1 (List.length v.2.1.1)) <|
 .g (decide ((Int.toNat v.1) < List.length v.2.1.1) && decide ((List.getD v.2.1.1 (Int.toNat v.1) 0) < List.length v.2.1.2)) <|
 .g (inR v.1 (List.length v.2.1.1)) <|
 .g (decide ((Int.toNat v.1) < List.length v.2.1.1)) <|
 .g (inR (IntKind.wrap .i64 (k.1 + (IntKind.wrap .i64 (IntKind.wrap .u64 (BitVec.toNat ((BitVec.ofInt (IntKind.bits .u64) r8_.1) &&& (BitVec.ofInt (IntKind.bits .u64) (IntKind.wrap .u64 (k.2.2 - (1 : Int)))))))))) (List.length (List.set v.2.1.1 (Int.toNat v.1) (List.getD v.2.1.1 (Int.toNat (IntKind.wrap .i64 (k.1 + (IntKind.wrap .i64 (IntKind.wrap .u64 (BitVec.toNat ((BitVec.ofInt (IntKind.bits .u64) r8_.1) &&& (BitVec.ofInt (IntKind.bits .u64) (IntKind.wrap .u64 (k.2.2 - (1 : Int))))))))))) 0)))) <|
 .g (decide ((Int.toNat (IntKind.wrap .i64 (k.1 + (IntKind.wrap .i64 (IntKind.wrap .u64 (BitVec.toNat ((BitVec.ofInt (IntKind.bits .u64) r8_.1) &&& (BitVec.ofInt (IntKind.bits .u64) (IntKind.wrap .u64 (k.2.2 - (1 : Int))))))))))) < List.length (List.set v.2.1.1 (Int.toNat v.1) (List.getD v.2.1.1 (Int.toNat (IntKind.wrap .i64 (k.1 + (IntKind.wrap .i64 (IntKind.wrap .u64 (BitVec.toNat ((BitVec.ofInt (IntKind.bits .u64) r8_.1) &&& (BitVec.ofInt (IntKind.bits .u64) (IntKind.wrap .u64 (k.2.2 - (1 : Int))))))))))) 0)))) <|
 .l (.inl ((IntKind.wrap .i64 (v.1 + (1 : Int))), (((List.set (List.set v.2.1.1 (Int.toNat v.1) (List.getD v.2.1.1 (Int.toNat (IntKind.wrap .i64 (k.1 + (IntKind.wrap .i64 (IntKind.wrap .u64 (BitVec.toNat ((BitVec.ofInt (IntKind.bits .u64) r8_.1) &&& (BitVec.ofInt (IntKind.bits .u64) (IntKind.wrap .u64 (k.2.2 - (1 : Int))))))))))) 0)) (Int.toNat (IntKind.wrap .i64 (k.1 + (IntKind.wrap .i64 (IntKind.wrap .u64 (BitVec.toNat ((BitVec.ofInt (IntKind.bits .u64) r8_.1) &&& (BitVec.ofInt (IntKind.bits .u64) (IntKind.wrap .u64 (k.2.2 - (1 : Int))))))))))) (List.getD v.2.1.1 (Int.toNat v.1) 0)), v.2.1.2), r8_.2)))))
 (.l (.inr v.2.1))
noncomputable def wxz (k : Int × (Int × Int)) (v : Int × (((List Nat) × Y2) × Int)) : Option ((List Nat) × Y2) := iter (fun v => (wqs k v).ev) v
noncomputable def wqt : LD := ⟨{ acts := [], S := { slots := [0, 1, 8, 9, 10, 11], sh := (.cons (.arr 64) (.cons (.dat yi) (.cons (.dat yi) (.cons (.box 9 0) (.cons (.dat (.int .u64)) (.cons (.dat yi) .nil)))))), obs := [(64, .perm 22 3 yi), (9, .cells (.cons (.dat (.int .u64)) .nil))] } }, [(0, { acts := [], S := { slots := [0], sh := (.cons (.arr 64) .nil), obs := [(64, .perm 22 3 yi)] } })], (yh [] .nil), Int × (Int × Int), Int × (((List Nat) × Y2) × Int), (List Nat) × Y2, fun k v => (((), (k.1, (k.2.1, ((), (k.2.2, (v.1, ())))))), (v.2.1, ((v.2.2, ()), ()))), fun t => (t.1.2.1, (t.1.2.2.1, t.1.2.2.2.2.1)), fun t => (t.1.2.2.2.2.2.1, (t.2.1, t.2.2.1.1)), wqs, fun _ r => .l (.exit 0 (wav ({ slots := [0], sh := (.cons (.arr 64) .nil), obs := [(64, .perm 22 3 yi)] }) (((), ()), (r, ()))))⟩
noncomputable def waiz (a2_ : Int) (a3_ : Int) (_a4_ : (HL [y1, y1] → Option (Int))) (a1_ : (List Nat) × Y2) : Tr ((List Nat) × Y2) :=
 .t (decide ((8 : Int) ≤ (IntKind.wrap .i64 (a3_ - a2_))))
 (.c (Int) (waic (IntKind.wrap .i64 (a3_ - a2_))) fun r1_ =>
 .g (!decide ((4 : Int) = 0)) <|
 .c ((List Nat) × Y2) (wxz (a2_, ((IntKind.wrap .i64 (a3_ - a2_)), r1_)) ((IntKind.wrap .i64 ((IntKind.wrap .i64 (a2_ + (IntKind.wrap .i64 ((IntKind.wrap .i64 (Int.tdiv (IntKind.wrap .i64 (a3_ - a2_)) (4 : Int))) * (2 : Int))))) - (1 : Int))), (a1_, (IntKind.wrap .u64 (IntKind.wrap .i64 (a3_ - a2_)))))) fun r10_ =>
 .l r10_)
 (.l a1_)
noncomputable def wavv (a2_ : Int) (a3_ : Int) (a4_ : (HL [y1, y1] → Option (Int))) (a1_ : (List Nat) × Y2) : Option ((List Nat) × Y2) := (waiz a2_ a3_ a4_ a1_).ev
noncomputable def wbrt : Sh := (.cons (.arr 64) (.cons (.dat yi) (.cons (.dat yi) (.cons (.clo [y1, y1] yi) .nil))))
noncomputable def wbru : List (Nat × OSh) := [(64, .perm 22 3 yi)]
noncomputable def K_zaw : RetK := { acts := [], res := [], sh := .nil, obs := [(64, .perm 22 3 yi)], pins := [(0, 0, 64)] }
noncomputable def D_zaw : FD := ⟨wbrt, wbru, [.arg 0], (List Nat) × Y2, fun x => wavv x.1.2.1 x.1.2.2.1 x.1.2.2.2.1 x.2.1, fun r => ([], [(64, .perm false 22 3 yi r.1 r.2)])⟩
noncomputable def wavw : Env := wae [(224, D_zbg), (225, D_zbn)]
noncomputable def wavx : Nat → Nat → List Nat := fun _ _ => []
noncomputable def wavy : List (Nat × LD) := [(0, wqt)]
noncomputable def waja : Code := (f217.body).getD .skip
noncomputable def wajb (a1_ : List Y1) (a2_ : Int) (a3_ : Int) (a5_ : (HL [y1, y1] → Option (Int))) (a4_ : Int) : Tr (Int × (Int × Int)) :=
 .g (inR a3_ (List.length a1_)) <|
 .g (inR a2_ (List.length a1_)) <|
 .c (Int) (a5_ ((List.getD a1_ (Int.toNat a3_) ([] : Y1)), ((List.getD a1_ (Int.toNat a2_) ([] : Y1)), ()))) fun r1_ =>
 .t (decide (r1_ < (0 : Int)))
 (.l (a3_, (a2_, (IntKind.wrap .i64 (a4_ + (1 : Int))))))
 (.l (a2_, (a3_, a4_)))
noncomputable def wacs (a1_ : List Y1) (a2_ : Int) (a3_ : Int) (a5_ : (HL [y1, y1] → Option (Int))) (a4_ : Int) : Option (Int × (Int × Int)) := (wajb a1_ a2_ a3_ a5_ a4_).ev
noncomputable def wbrv : Sh := (.cons (.dat y2) (.cons (.dat yi) (.cons (.dat yi) (.cons (.box 64 0) (.cons (.clo [y1, y1] yi) .nil)))))
noncomputable def wbrw : List (Nat × OSh) := [(64, .cells (.cons (.dat yi) .nil))]
noncomputable def K_zbh : RetK := { acts := [], res := [.tmp 10, .tmp 11], sh := (.cons (.dat yi) (.cons (.dat yi) .nil)), obs := [(64, .cells (.cons (.dat yi) .nil))], pins := [(3, 0, 64)] }
noncomputable def D_zbh : FD := ⟨wbrv, wbrw, [.arg 3], Int × (Int × Int), fun x => wacs x.1.1 x.1.2.1 x.1.2.2.1 x.1.2.2.2.2.1 x.2.1.1, fun r => ([.dat yi r.1, .dat yi r.2.1], [(64, .cells [.dat yi r.2.2])])⟩
noncomputable def wbin : Env := wae []
noncomputable def wbio : Nat → Nat → List Nat := fun _ _ => []
noncomputable def wbip : List (Nat × LD) := []
noncomputable def wbiq : Code := (f234.body).getD .skip
noncomputable def wajc (a1_ : List Y1) (a2_ : Int) (a3_ : Int) (a4_ : Int) (a6_ : (HL [y1, y1] → Option (Int))) (a5_ : Int) : Tr (Int × Int) :=
 .c (Int × (Int × Int)) (wacs a1_ a2_ a3_ a6_ a5_) fun r1_ =>
 .c (Int × (Int × Int)) (wacs a1_ r1_.2.1 a4_ a6_ r1_.2.2) fun r2_ =>
 .c (Int × (Int × Int)) (wacs a1_ r1_.1 r2_.1 a6_ r2_.2.2) fun r3_ =>
 .l (r3_.2.1, r3_.2.2)
noncomputable def wact (a1_ : List Y1) (a2_ : Int) (a3_ : Int) (a4_ : Int) (a6_ : (HL [y1, y1] → Option (Int))) (a5_ : Int) : Option (Int × Int) := (wajc a1_ a2_ a3_ a4_ a6_ a5_).ev
noncomputable def wbrx : Sh := (.cons (.dat y2) (.cons (.dat yi) (.cons (.dat yi) (.cons (.dat yi) (.cons (.box 64 0) (.cons (.clo [y1, y1] yi) .nil))))))
noncomputable def wbry : List (Nat × OSh) := [(64, .cells (.cons (.dat yi) .nil))]
noncomputable def K_zbe : RetK := { acts := [], res := [.tmp 12], sh := (.cons (.dat yi) .nil), obs := [(64, .cells (.cons (.dat yi) .nil))], pins := [(4, 0, 64)] }
noncomputable def D_zbe : FD := ⟨wbrx, wbry, [.arg 4], Int × (Int), fun x => wact x.1.1 x.1.2.1 x.1.2.2.1 x.1.2.2.2.1 x.1.2.2.2.2.2.1 x.2.1.1, fun r => ([.dat yi r.1], [(64, .cells [.dat yi r.2])])⟩
noncomputable def wbir : Env := wae [(234, D_zbh)]
noncomputable def wbis : Nat → Nat → List Nat := fun _ _ => []
noncomputable def wbit : List (Nat × LD) := []
noncomputable def wbiu : Code := (f231.body).getD .skip
noncomputable def wajd (a1_ : List Y1) (a2_ : Int) (a4_ : (HL [y1, y1] → Option (Int))) (a3_ : Int) : Tr (Int × Int) :=
 .c (Int × Int) (wact a1_ (IntKind.wrap .i64 (a2_ - (1 : Int))) a2_ (IntKind.wrap .i64 (a2_ + (1 : Int))) a4_ a3_) fun r1_ =>
 .l (r1_.1, r1_.2)
noncomputable def wacu (a1_ : List Y1) (a2_ : Int) (a4_ : (HL [y1, y1] → Option (Int))) (a3_ : Int) : Option (Int × Int) := (wajd a1_ a2_ a4_ a3_).ev
noncomputable def wbrz : Sh := (.cons (.dat y2) (.cons (.dat yi) (.cons (.box 64 0) (.cons (.clo [y1, y1] yi) .nil))))
noncomputable def wbsa : List (Nat × OSh) := [(64, .cells (.cons (.dat yi) .nil))]
noncomputable def K_zbc : RetK := { acts := [], res := [.tmp 8], sh := (.cons (.dat yi) .nil), obs := [(64, .cells (.cons (.dat yi) .nil))], pins := [(2, 0, 64)] }
noncomputable def D_zbc : FD := ⟨wbrz, wbsa, [.arg 2], Int × (Int), fun x => wacu x.1.1 x.1.2.1 x.1.2.2.2.1 x.2.1.1, fun r => ([.dat yi r.1], [(64, .cells [.dat yi r.2])])⟩
noncomputable def wbiv : Env := wae [(231, D_zbe)]
noncomputable def wbiw : Nat → Nat → List Nat := fun _ _ => []
noncomputable def wbix : List (Nat × LD) := []
noncomputable def wbiy : Code := (f230.body).getD .skip
noncomputable def waje (a1_ : List Y1) (a2_ : Int) (a3_ : Int) (a4_ : (HL [y1, y1] → Option (Int))) : Tr (Int × Int) :=
 .g (!decide ((4 : Int) = 0)) <|
 .g (!decide ((4 : Int) = 0)) <|
 .g (!decide ((4 : Int) = 0)) <|
 .t (decide ((8 : Int) ≤ (IntKind.wrap .i64 (a3_ - a2_))))
 (.t (decide ((50 : Int) ≤ (IntKind.wrap .i64 (a3_ - a2_))))
 (.c (Int × Int) (wacu a1_ (IntKind.wrap .i64 (a2_ + (IntKind.wrap .i64 ((IntKind.wrap .i64 (Int.tdiv (IntKind.wrap .i64 (a3_ - a2_)) (4 : Int))) * (1 : Int))))) a4_ (0 : Int)) fun r1_ =>
 .c (Int × Int) (wacu a1_ (IntKind.wrap .i64 (a2_ + (IntKind.wrap .i64 ((IntKind.wrap .i64 (Int.tdiv (IntKind.wrap .i64 (a3_ - a2_)) (4 : Int))) * (2 : Int))))) a4_ r1_.2) fun r2_ =>
 .c (Int × Int) (wacu a1_ (IntKind.wrap .i64 (a2_ + (IntKind.wrap .i64 ((IntKind.wrap .i64 (Int.tdiv (IntKind.wrap .i64 (a3_ - a2_)) (4 : Int))) * (3 : Int))))) a4_ r2_.2) fun r3_ =>
 .c (Int × Int) (wact a1_ r1_.1 r2_.1 r3_.1 a4_ r3_.2) fun r4_ =>
 .t (r4_.2 == (0 : Int))
 (.l (r4_.1, (1 : Int)))
 (.t (r4_.2 == (12 : Int))
 (.l (r4_.1, (2 : Int)))
 (.l (r4_.1, (0 : Int)))))
 (.c (Int × Int) (wact a1_ (IntKind.wrap .i64 (a2_ + (IntKind.wrap .i64 ((IntKind.wrap .i64 (Int.tdiv (IntKind.wrap .i64 (a3_ - a2_)) (4 : Int))) * (1 : Int))))) (IntKind.wrap .i64 (a2_ + (IntKind.wrap .i64 ((IntKind.wrap .i64 (Int.tdiv (IntKind.wrap .i64 (a3_ - a2_)) (4 : Int))) * (2 : Int))))) (IntKind.wrap .i64 (a2_ + (IntKind.wrap .i64 ((IntKind.wrap .i64 (Int.tdiv (IntKind.wrap .i64 (a3_ - a2_)) (4 : Int))) * (3 : Int))))) a4_ (0 : Int)) fun r5_ =>
 .t (r5_.2 == (0 : Int))
 (.l (r5_.1, (1 : Int)))
 (.t (r5_.2 == (12 : Int))
 (.l (r5_.1, (2 : Int)))
 (.l (r5_.1, (0 : Int))))))
 (.t ((0 : Int) == (0 : Int))
 (.l ((IntKind.wrap .i64 (a2_ + (IntKind.wrap .i64 ((IntKind.wrap .i64 (Int.tdiv (IntKind.wrap .i64 (a3_ - a2_)) (4 : Int))) * (2 : Int))))), (1 : Int)))
 (.t ((0 : Int) == (12 : Int))
 (.l ((IntKind.wrap .i64 (a2_ + (IntKind.wrap .i64 ((IntKind.wrap .i64 (Int.tdiv (IntKind.wrap .i64 (a3_ - a2_)) (4 : Int))) * (2 : Int))))), (2 : Int)))
 (.l ((IntKind.wrap .i64 (a2_ + (IntKind.wrap .i64 ((IntKind.wrap .i64 (Int.tdiv (IntKind.wrap .i64 (a3_ - a2_)) (4 : Int))) * (2 : Int))))), (0 : Int)))))
noncomputable def wajf (a1_ : List Y1) (a2_ : Int) (a3_ : Int) (a4_ : (HL [y1, y1] → Option (Int))) : Option (Int × Int) := (waje a1_ a2_ a3_ a4_).ev
noncomputable def wbsb : Sh := (.cons (.dat y2) (.cons (.dat yi) (.cons (.dat yi) (.cons (.clo [y1, y1] yi) .nil))))
noncomputable def wbsc : List (Nat × OSh) := []
noncomputable def K_zay : RetK := { acts := [], res := [.tmp 8, .tmp 9], sh := (.cons (.dat yi) (.cons (.dat yi) .nil)), obs := [], pins := [] }
noncomputable def D_zay : FD := ⟨wbsb, wbsc, [], Int × (Int), fun x => wajf x.1.1 x.1.2.1 x.1.2.2.1 x.1.2.2.2.1, fun r => ([.dat yi r.1, .dat yi r.2], [])⟩
noncomputable def wbiz : Env := wae [(230, D_zbc), (231, D_zbe)]
noncomputable def wbja : Nat → Nat → List Nat := fun _ _ => []
noncomputable def wbjb : List (Nat × LD) := []
noncomputable def wbjc : Code := (f218.body).getD .skip
noncomputable def wqu (k : Int × (((HL [y1, y1] → Option (Int))) × (Int × ((List Nat) × Y2)))) (v : Int) : Tr ((Int) ⊕ (Int)) :=
 .t (decide (v ≤ k.2.2.1))
 (.g (inR v (List.length k.2.2.2.1)) <|
 .g (decide ((Int.toNat v) < List.length k.2.2.2.1) && decide ((List.getD k.2.2.2.1 (Int.toNat v) 0) < List.length k.2.2.2.2)) <|
 .g (inR k.1 (List.length k.2.2.2.1)) <|
 .g (decide ((Int.toNat k.1) < List.length k.2.2.2.1) && decide ((List.getD k.2.2.2.1 (Int.toNat k.1) 0) < List.length k.2.2.2.2)) <|
 .c (Int) (k.2.1 ((List.getD k.2.2.2.2 (List.getD k.2.2.2.1 (Int.toNat v) 0) ([] : Y1)), ((List.getD k.2.2.2.2 (List.getD k.2.2.2.1 (Int.toNat k.1) 0) ([] : Y1)), ()))) fun r6_ =>
 .t (decide (r6_ < (0 : Int)))
 (.l (.inl (IntKind.wrap .i64 (v + (1 : Int)))))
 (.l (.inr v)))
 (.l (.inr v))
noncomputable def wya (k : Int × (((HL [y1, y1] → Option (Int))) × (Int × ((List Nat) × Y2)))) (v : Int) : Option (Int) := iter (fun v => (wqu k v).ev) v
noncomputable def wqv : LD := ⟨{ acts := [], S := { slots := [0, 1, 4, 12, 13], sh := (.cons (.arr 64) (.cons (.dat yi) (.cons (.clo [y1, y1] yi) (.cons (.dat yi) (.cons (.dat yi) .nil))))), obs := [(64, .perm 22 3 yi)] } }, [(0, { acts := [], S := { slots := [0, 1, 4, 12, 13], sh := (.cons (.arr 64) (.cons (.dat yi) (.cons (.clo [y1, y1] yi) (.cons (.dat yi) (.cons (.dat yi) .nil))))), obs := [(64, .perm 22 3 yi)] } })], (yh [] .nil), Int × (((HL [y1, y1] → Option (Int))) × (Int × ((List Nat) × Y2))), Int, Int, fun k v => (((), (k.1, (k.2.1, (v, (k.2.2.1, ()))))), (k.2.2.2, ())), fun t => (t.1.2.1, (t.1.2.2.1, (t.1.2.2.2.2.1, t.2.1))), fun t => t.1.2.2.2.1, wqu, fun k r => .l (.exit 0 (wav ({ slots := [0, 1, 4, 12, 13], sh := (.cons (.arr 64) (.cons (.dat yi) (.cons (.clo [y1, y1] yi) (.cons (.dat yi) (.cons (.dat yi) .nil))))), obs := [(64, .perm 22 3 yi)] }) (((), (k.1, (k.2.1, (r, (k.2.2.1, ()))))), (k.2.2.2, ()))))⟩
noncomputable def wqw (k : Int × (((HL [y1, y1] → Option (Int))) × (Int × ((List Nat) × Y2)))) (v : Int) : Tr ((Int) ⊕ (Int)) :=
 .t (decide (k.2.2.1 ≤ v))
 (.g (inR v (List.length k.2.2.2.1)) <|
 .g (decide ((Int.toNat v) < List.length k.2.2.2.1) && decide ((List.getD k.2.2.2.1 (Int.toNat v) 0) < List.length k.2.2.2.2)) <|
 .g (inR k.1 (List.length k.2.2.2.1)) <|
 .g (decide ((Int.toNat k.1) < List.length k.2.2.2.1) && decide ((List.getD k.2.2.2.1 (Int.toNat k.1) 0) < List.length k.2.2.2.2)) <|
 .c (Int) (k.2.1 ((List.getD k.2.2.2.2 (List.getD k.2.2.2.1 (Int.toNat v) 0) ([] : Y1)), ((List.getD k.2.2.2.2 (List.getD k.2.2.2.1 (Int.toNat k.1) 0) ([] : Y1)), ()))) fun r18_ =>
 .t (!(decide (r18_ < (0 : Int))))
 (.l (.inl (IntKind.wrap .i64 (v - (1 : Int)))))
 (.l (.inr v)))
 (.l (.inr v))
noncomputable def wyb (k : Int × (((HL [y1, y1] → Option (Int))) × (Int × ((List Nat) × Y2)))) (v : Int) : Option (Int) := iter (fun v => (wqw k v).ev) v
noncomputable def wqx : LD := ⟨{ acts := [], S := { slots := [0, 1, 4, 12, 13], sh := (.cons (.arr 64) (.cons (.dat yi) (.cons (.clo [y1, y1] yi) (.cons (.dat yi) (.cons (.dat yi) .nil))))), obs := [(64, .perm 22 3 yi)] } }, [(2, { acts := [], S := { slots := [0, 1, 4, 12, 13], sh := (.cons (.arr 64) (.cons (.dat yi) (.cons (.clo [y1, y1] yi) (.cons (.dat yi) (.cons (.dat yi) .nil))))), obs := [(64, .perm 22 3 yi)] } })], (yh [] .nil), Int × (((HL [y1, y1] → Option (Int))) × (Int × ((List Nat) × Y2))), Int, Int, fun k v => (((), (k.1, (k.2.1, (k.2.2.1, (v, ()))))), (k.2.2.2, ())), fun t => (t.1.2.1, (t.1.2.2.1, (t.1.2.2.2.1, t.2.1))), fun t => t.1.2.2.2.2.1, wqw, fun k r => .l (.exit 2 (wav ({ slots := [0, 1, 4, 12, 13], sh := (.cons (.arr 64) (.cons (.dat yi) (.cons (.clo [y1, y1] yi) (.cons (.dat yi) (.cons (.dat yi) .nil))))), obs := [(64, .perm 22 3 yi)] }) (((), (k.1, (k.2.1, (k.2.2.1, (r, ()))))), (k.2.2.2, ()))))⟩
noncomputable def wqy (k : Int × (((HL [y1, y1] → Option (Int))) × (Int × ((List Nat) × Y2)))) (v : Int) : Tr ((Int) ⊕ (Int)) :=
 .t (decide (v ≤ k.2.2.1))
 (.g (inR v (List.length k.2.2.2.1)) <|
 .g (decide ((Int.toNat v) < List.length k.2.2.2.1) && decide ((List.getD k.2.2.2.1 (Int.toNat v) 0) < List.length k.2.2.2.2)) <|
 .g (inR k.1 (List.length k.2.2.2.1)) <|
 .g (decide ((Int.toNat k.1) < List.length k.2.2.2.1) && decide ((List.getD k.2.2.2.1 (Int.toNat k.1) 0) < List.length k.2.2.2.2)) <|
 .c (Int) (k.2.1 ((List.getD k.2.2.2.2 (List.getD k.2.2.2.1 (Int.toNat v) 0) ([] : Y1)), ((List.getD k.2.2.2.2 (List.getD k.2.2.2.1 (Int.toNat k.1) 0) ([] : Y1)), ()))) fun r35_ =>
 .t (decide (r35_ < (0 : Int)))
 (.l (.inl (IntKind.wrap .i64 (v + (1 : Int)))))
 (.l (.inr v)))
 (.l (.inr v))
noncomputable def wyc (k : Int × (((HL [y1, y1] → Option (Int))) × (Int × ((List Nat) × Y2)))) (v : Int) : Option (Int) := iter (fun v => (wqy k v).ev) v
noncomputable def wqz : LD := ⟨{ acts := [], S := { slots := [0, 1, 4, 12, 13], sh := (.cons (.arr 64) (.cons (.dat yi) (.cons (.clo [y1, y1] yi) (.cons (.dat yi) (.cons (.dat yi) .nil))))), obs := [(64, .perm 22 3 yi)] } }, [(6, { acts := [], S := { slots := [0, 1, 4, 12, 13], sh := (.cons (.arr 64) (.cons (.dat yi) (.cons (.clo [y1, y1] yi) (.cons (.dat yi) (.cons (.dat yi) .nil))))), obs := [(64, .perm 22 3 yi)] } })], (yh [] .nil), Int × (((HL [y1, y1] → Option (Int))) × (Int × ((List Nat) × Y2))), Int, Int, fun k v => (((), (k.1, (k.2.1, (v, (k.2.2.1, ()))))), (k.2.2.2, ())), fun t => (t.1.2.1, (t.1.2.2.1, (t.1.2.2.2.2.1, t.2.1))), fun t => t.1.2.2.2.1, wqy, fun k r => .l (.exit 6 (wav ({ slots := [0, 1, 4, 12, 13], sh := (.cons (.arr 64) (.cons (.dat yi) (.cons (.clo [y1, y1] yi) (.cons (.dat yi) (.cons (.dat yi) .nil))))), obs := [(64, .perm 22 3 yi)] }) (((), (k.1, (k.2.1, (r, (k.2.2.1, ()))))), (k.2.2.2, ()))))⟩
noncomputable def wra (k : Int × (((HL [y1, y1] → Option (Int))) × (Int × ((List Nat) × Y2)))) (v : Int) : Tr ((Int) ⊕ (Int)) :=
 .t (decide (k.2.2.1 ≤ v))
 (.g (inR v (List.length k.2.2.2.1)) <|
 .g (decide ((Int.toNat v) < List.length k.2.2.2.1) && decide ((List.getD k.2.2.2.1 (Int.toNat v) 0) < List.length k.2.2.2.2)) <|
 .g (inR k.1 (List.length k.2.2.2.1)) <|
 .g (decide ((Int.toNat k.1) < List.length k.2.2.2.1) && decide ((List.getD k.2.2.2.1 (Int.toNat k.1) 0) < List.length k.2.2.2.2)) <|
 .c (Int) (k.2.1 ((List.getD k.2.2.2.2 (List.getD k.2.2.2.1 (Int.toNat v) 0) ([] : Y1)), ((List.getD k.2.2.2.2 (List.getD k.2.2.2.1 (Int.toNat k.1) 0) ([] : Y1)), ()))) fun r47_ =>
 .t (!(decide (r47_ < (0 : Int))))
 (.l (.inl (IntKind.wrap .i64 (v - (1 : Int)))))
 (.l (.inr v)))
 (.l (.inr v))
noncomputable def wyd (k : Int × (((HL [y1, y1] → Option (Int))) × (Int × ((List Nat) × Y2)))) (v : Int) : Option (Int) := iter (fun v => (wra k v).ev) v
noncomputable def wrb : LD := ⟨{ acts := [], S := { slots := [0, 1, 4, 12, 13], sh := (.cons (.arr 64) (.cons (.dat yi) (.cons (.clo [y1, y1] yi) (.cons (.dat yi) (.cons (.dat yi) .nil))))), obs := [(64, .perm 22 3 yi)] } }, [(8, { acts := [], S := { slots := [0, 1, 4, 12, 13], sh := (.cons (.arr 64) (.cons (.dat yi) (.cons (.clo [y1, y1] yi) (.cons (.dat yi) (.cons (.dat yi) .nil))))), obs := [(64, .perm 22 3 yi)] } })], (yh [] .nil), Int × (((HL [y1, y1] → Option (Int))) × (Int × ((List Nat) × Y2))), Int, Int, fun k v => (((), (k.1, (k.2.1, (k.2.2.1, (v, ()))))), (k.2.2.2, ())), fun t => (t.1.2.1, (t.1.2.2.1, (t.1.2.2.2.1, t.2.1))), fun t => t.1.2.2.2.2.1, wra, fun k r => .l (.exit 8 (wav ({ slots := [0, 1, 4, 12, 13], sh := (.cons (.arr 64) (.cons (.dat yi) (.cons (.clo [y1, y1] yi) (.cons (.dat yi) (.cons (.dat yi) .nil))))), obs := [(64, .perm 22 3 yi)] }) (((), (k.1, (k.2.1, (k.2.2.1, (r, ()))))), (k.2.2.2, ()))))⟩
noncomputable def wrc (k : Int × ((HL [y1, y1] → Option (Int)))) (v : Int × (Int × ((List Nat) × Y2))) : Tr ((Int × (Int × ((List Nat) × Y2))) ⊕ (Int × ((List Nat) × Y2))) :=
 .c (Int) (wyc (k.1, (k.2, (v.2.1, v.2.2))) v.1) fun r41_ =>
 .c (Int) (wyd (k.1, (k.2, (r41_, v.2.2))) v.2.1) fun r53_ =>
 .t (decide (r53_ < r41_))
 (.l (.inr (r53_, v.2.2)))
 (.g (inR r53_ (List.length v.2.2.1)) <|
 .g (decide ((Int.toNat r53_) < List.length v.2.2.1) && decide ((List.getD v.2.2.1 (Int.toNat r53_) 0) < List.length v.2.2.2)) <|
 .g (inR r41_ (List.length v.2.2.1)) <|
 .g (decide ((Int.toNat r41_) < List.length v.2.2.1) && decide ((List.getD v.2.2.1 (Int.toNat r41_) 0) < List.length v.2.2.2)) <|
 .g (inR r41_ (List.length v.2.2.1)) <|
 .g (decide ((Int.toNat r41_) < List.length v.2.2.1)) <|
 .g (inR r53_ (List.length (List.set v.2.2.1 (Int.toNat r41_) (List.getD v.2.2.1 (Int.toNat r53_) 0)))) <|
 .g (decide ((Int.toNat r53_) < List.length (List.set v.2.2.1 (Int.toNat r41_) (List.getD v.2.2.1 (Int.toNat r53_) 0)))) <|
 .l (.inl ((IntKind.wrap .i64 (r41_ + (1 : Int))), ((IntKind.wrap .i64 (r53_ - (1 : Int))), ((List.set (List.set v.2.2.1 (Int.toNat r41_) (List.getD v.2.2.1 (Int.toNat r53_) 0)) (Int.toNat r53_) (List.getD v.2.2.1 (Int.toNat r41_) 0)), v.2.2.2)))))
noncomputable def wye (k : Int × ((HL [y1, y1] → Option (Int)))) (v : Int × (Int × ((List Nat) × Y2))) : Option (Int × ((List Nat) × Y2)) := iter (fun v => (wrc k v).ev) v
noncomputable def wrd : LD := ⟨{ acts := [], S := { slots := [0, 1, 4, 12, 13], sh := (.cons (.arr 64) (.cons (.dat yi) (.cons (.clo [y1, y1] yi) (.cons (.dat yi) (.cons (.dat yi) .nil))))), obs := [(64, .perm 22 3 yi)] } }, [(4, { acts := [], S := { slots := [0, 1, 13], sh := (.cons (.arr 64) (.cons (.dat yi) (.cons (.dat yi) .nil))), obs := [(64, .perm 22 3 yi)] } })], (yh [] .nil), Int × ((HL [y1, y1] → Option (Int))), Int × (Int × ((List Nat) × Y2)), Int × ((List Nat) × Y2), fun k v => (((), (k.1, (k.2, (v.1, (v.2.1, ()))))), (v.2.2, ())), fun t => (t.1.2.1, t.1.2.2.1), fun t => (t.1.2.2.2.1, (t.1.2.2.2.2.1, t.2.1)), wrc, fun k r => .l (.exit 4 (wav ({ slots := [0, 1, 13], sh := (.cons (.arr 64) (.cons (.dat yi) (.cons (.dat yi) .nil))), obs := [(64, .perm 22 3 yi)] }) (((), (k.1, (r.1, ()))), (r.2, ()))))⟩
noncomputable def wajg (a2_ : Int) (a3_ : Int) (a4_ : Int) (a5_ : (HL [y1, y1] → Option (Int))) (a1_ : (List Nat) × Y2) : Tr (Int × (Bool × ((List Nat) × Y2))) :=
 .g (inR a4_ (List.length a1_.1)) <|
 .g (decide ((Int.toNat a4_) < List.length a1_.1) && decide ((List.getD a1_.1 (Int.toNat a4_) 0) < List.length a1_.2)) <|
 .g (inR a2_ (List.length a1_.1)) <|
 .g (decide ((Int.toNat a2_) < List.length a1_.1) && decide ((List.getD a1_.1 (Int.toNat a2_) 0) < List.length a1_.2)) <|
 .g (inR a2_ (List.length a1_.1)) <|
 .g (decide ((Int.toNat a2_) < List.length a1_.1)) <|
 .g (inR a4_ (List.length (List.set a1_.1 (Int.toNat a2_) (List.getD a1_.1 (Int.toNat a4_) 0)))) <|
 .g (decide ((Int.toNat a4_) < List.length (List.set a1_.1 (Int.toNat a2_) (List.getD a1_.1 (Int.toNat a4_) 0)))) <|
 .c (Int) (wya (a2_, (a5_, ((IntKind.wrap .i64 (a3_ - (1 : Int))), ((List.set (List.set a1_.1 (Int.toNat a2_) (List.getD a1_.1 (Int.toNat a4_) 0)) (Int.toNat a4_) (List.getD a1_.1 (Int.toNat a2_) 0)), a1_.2)))) (IntKind.wrap .i64 (a2_ + (1 : Int)))) fun r12_ =>
 .c (Int) (wyb (a2_, (a5_, (r12_, ((List.set (List.set a1_.1 (Int.toNat a2_) (List.getD a1_.1 (Int.toNat a4_) 0)) (Int.toNat a4_) (List.getD a1_.1 (Int.toNat a2_) 0)), a1_.2)))) (IntKind.wrap .i64 (a3_ - (1 : Int)))) fun r24_ =>
 .t (decide (r24_ < r12_))
 (.g (inR a2_ (List.length (List.set (List.set a1_.1 (Int.toNat a2_) (List.getD a1_.1 (Int.toNat a4_) 0)) (Int.toNat a4_) (List.getD a1_.1 (Int.toNat a2_) 0)))) <|
 .g (decide ((Int.toNat a2_) < List.length (List.set (List.set a1_.1 (Int.toNat a2_) (List.getD a1_.1 (Int.toNat a4_) 0)) (Int.toNat a4_) (List.getD a1_.1 (Int.toNat a2_) 0))) && decide ((List.getD (List.set (List.set a1_.1 (Int.toNat a2_) (List.getD a1_.1 (Int.toNat a4_) 0)) (Int.toNat a4_) (List.getD a1_.1 (Int.toNat a2_) 0)) (Int.toNat a2_) 0) < List.length a1_.2)) <|
 .g (inR r24_ (List.length (List.set (List.set a1_.1 (Int.toNat a2_) (List.getD a1_.1 (Int.toNat a4_) 0)) (Int.toNat a4_) (List.getD a1_.1 (Int.toNat a2_) 0)))) <|
 .g (decide ((Int.toNat r24_) < List.length (List.set (List.set a1_.1 (Int.toNat a2_) (List.getD a1_.1 (Int.toNat a4_) 0)) (Int.toNat a4_) (List.getD a1_.1 (Int.toNat a2_) 0))) && decide ((List.getD (List.set (List.set a1_.1 (Int.toNat a2_) (List.getD a1_.1 (Int.toNat a4_) 0)) (Int.toNat a4_) (List.getD a1_.1 (Int.toNat a2_) 0)) (Int.toNat r24_) 0) < List.length a1_.2)) <|
 .g (inR r24_ (List.length (List.set (List.set a1_.1 (Int.toNat a2_) (List.getD a1_.1 (Int.toNat a4_) 0)) (Int.toNat a4_) (List.getD a1_.1 (Int.toNat a2_) 0)))) <|
 .g (decide ((Int.toNat r24_) < List.length (List.set (List.set a1_.1 (Int.toNat a2_) (List.getD a1_.1 (Int.toNat a4_) 0)) (Int.toNat a4_) (List.getD a1_.1 (Int.toNat a2_) 0)))) <|
 .g (inR a2_ (List.length (List.set (List.set (List.set a1_.1 (Int.toNat a2_) (List.getD a1_.1 (Int.toNat a4_) 0)) (Int.toNat a4_) (List.getD a1_.1 (Int.toNat a2_) 0)) (Int.toNat r24_) (List.getD (List.set (List.set a1_.1 (Int.toNat a2_) (List.getD a1_.1 (Int.toNat a4_) 0)) (Int.toNat a4_) (List.getD a1_.1 (Int.toNat a2_) 0)) (Int.toNat a2_) 0)))) <|
 .g (decide ((Int.toNat a2_) < List.length (List.set (List.set (List.set a1_.1 (Int.toNat a2_) (List.getD a1_.1 (Int.toNat a4_) 0)) (Int.toNat a4_) (List.getD a1_.1 (Int.toNat a2_) 0)) (Int.toNat r24_) (List.getD (List.set (List.set a1_.1 (Int.toNat a2_) (List.getD a1_.1 (Int.toNat a4_) 0)) (Int.toNat a4_) (List.getD a1_.1 (Int.toNat a2_) 0)) (Int.toNat a2_) 0)))) <|
 .l (r24_, (true, ((List.set (List.set (List.set (List.set a1_.1 (Int.toNat a2_) (List.getD a1_.1 (Int.toNat a4_) 0)) (Int.toNat a4_) (List.getD a1_.1 (Int.toNat a2_) 0)) (Int.toNat r24_) (List.getD (List.set (List.set a1_.1 (Int.toNat a2_) (List.getD a1_.1 (Int.toNat a4_) 0)) (Int.toNat a4_) (List.getD a1_.1 (Int.toNat a2_) 0)) (Int.toNat a2_) 0)) (Int.toNat a2_) (List.getD (List.set (List.set a1_.1 (Int.toNat a2_) (List.getD a1_.1 (Int.toNat a4_) 0)) (Int.toNat a4_) (List.getD a1_.1 (Int.toNat a2_) 0)) (Int.toNat r24_) 0)), a1_.2))))
 (.g (inR r24_ (List.length (List.set (List.set a1_.1 (Int.toNat a2_) (List.getD a1_.1 (Int.toNat a4_) 0)) (Int.toNat a4_) (List.getD a1_.1 (Int.toNat a2_) 0)))) <|
 .g (decide ((Int.toNat r24_) < List.length (List.set (List.set a1_.1 (Int.toNat a2_) (List.getD a1_.1 (Int.toNat a4_) 0)) (Int.toNat a4_) (List.getD a1_.1 (Int.toNat a2_) 0))) && decide ((List.getD (List.set (List.set a1_.1 (Int.toNat a2_) (List.getD a1_.1 (Int.toNat a4_) 0)) (Int.toNat a4_) (List.getD a1_.1 (Int.toNat a2_) 0)) (Int.toNat r24_) 0) < List.length a1_.2)) <|
 .g (inR r12_ (List.length (List.set (List.set a1_.1 (Int.toNat a2_) (List.getD a1_.1 (Int.toNat a4_) 0)) (Int.toNat a4_) (List.getD a1_.1 (Int.toNat a2_) 0)))) <|
 .g (decide ((Int.toNat r12_) < List.length (List.set (List.set a1_.1 (Int.toNat a2_) (List.getD a1_.1 (Int.toNat a4_) 0)) (Int.toNat a4_) (List.getD a1_.1 (Int.toNat a2_) 0))) && decide ((List.getD (List.set (List.set a1_.1 (Int.toNat a2_) (List.getD a1_.1 (Int.toNat a4_) 0)) (Int.toNat a4_) (List.getD a1_.1 (Int.toNat a2_) 0)) (Int.toNat r12_) 0) < List.length a1_.2)) <|
 .g (inR r12_ (List.length (List.set (List.set a1_.1 (Int.toNat a2_) (List.getD a1_.1 (Int.toNat a4_) 0)) (Int.toNat a4_) (List.getD a1_.1 (Int.toNat a2_) 0)))) <|
 .g (decide ((Int.toNat r12_) < List.length (List.set (List.set a1_.1 (Int.toNat a2_) (List.getD a1_.1 (Int.toNat a4_) 0)) (Int.toNat a4_) (List.getD a1_.1 (Int.toNat a2_) 0)))) <|
 .g (inR r24_ (List.length (List.set (List.set (List.set a1_.1 (Int.toNat a2_) (List.getD a1_.1 (Int.toNat a4_) 0)) (Int.toNat a4_) (List.getD a1_.1 (Int.toNat a2_) 0)) (Int.toNat r12_) (List.getD (List.set (List.set a1_.1 (Int.toNat a2_) (List.getD a1_.1 (Int.toNat a4_) 0)) (Int.toNat a4_) (List.getD a1_.1 (Int.toNat a2_) 0)) (Int.toNat r24_) 0)))) <|
 .g (decide ((Int.toNat r24_) < List.length (List.set (List.set (List.set a1_.1 (Int.toNat a2_) (List.getD a1_.1 (Int.toNat a4_) 0)) (Int.toNat a4_) (List.getD a1_.1 (Int.toNat a2_) 0)) (Int.toNat r12_) (List.getD (List.set (List.set a1_.1 (Int.toNat a2_) (List.getD a1_.1 (Int.toNat a4_) 0)) (Int.toNat a4_) (List.getD a1_.1 (Int.toNat a2_) 0)) (Int.toNat r24_) 0)))) <|
 .c (Int × ((List Nat) × Y2)) (wye (a2_, a5_) ((IntKind.wrap .i64 (r12_ + (1 : Int))), ((IntKind.wrap .i64 (r24_ - (1 : Int))), ((List.set (List.set (List.set (List.set a1_.1 (Int.toNat a2_) (List.getD a1_.1 (Int.toNat a4_) 0)) (Int.toNat a4_) (List.getD a1_.1 (Int.toNat a2_) 0)) (Int.toNat r12_) (List.getD (List.set (List.set a1_.1 (Int.toNat a2_) (List.getD a1_.1 (Int.toNat a4_) 0)) (Int.toNat a4_) (List.getD a1_.1 (Int.toNat a2_) 0)) (Int.toNat r24_) 0)) (Int.toNat r24_) (List.getD (List.set (List.set a1_.1 (Int.toNat a2_) (List.getD a1_.1 (Int.toNat a4_) 0)) (Int.toNat a4_) (List.getD a1_.1 (Int.toNat a2_) 0)) (Int.toNat r12_) 0)), a1_.2)))) fun r57_ =>
 .g (inR a2_ (List.length r57_.2.1)) <|
 .g (decide ((Int.toNat a2_) < List.length r57_.2.1) && decide ((List.getD r57_.2.1 (Int.toNat a2_) 0) < List.length r57_.2.2)) <|
 .g (inR r57_.1 (List.length r57_.2.1)) <|
 .g (decide ((Int.toNat r57_.1) < List.length r57_.2.1) && decide ((List.getD r57_.2.1 (Int.toNat r57_.1) 0) < List.length r57_.2.2)) <|
 .g (inR r57_.1 (List.length r57_.2.1)) <|
 .g (decide ((Int.toNat r57_.1) < List.length r57_.2.1)) <|
 .g (inR a2_ (List.length (List.set r57_.2.1 (Int.toNat r57_.1) (List.getD r57_.2.1 (Int.toNat a2_) 0)))) <|
 .g (decide ((Int.toNat a2_) < List.length (List.set r57_.2.1 (Int.toNat r57_.1) (List.getD r57_.2.1 (Int.toNat a2_) 0)))) <|
 .l (r57_.1, (false, ((List.set (List.set r57_.2.1 (Int.toNat r57_.1) (List.getD r57_.2.1 (Int.toNat a2_) 0)) (Int.toNat a2_) (List.getD r57_.2.1 (Int.toNat r57_.1) 0)), r57_.2.2))))
noncomputable def wgf (a2_ : Int) (a3_ : Int) (a4_ : Int) (a5_ : (HL [y1, y1] → Option (Int))) (a1_ : (List Nat) × Y2) : Option (Int × (Bool × ((List Nat) × Y2))) := (wajg a2_ a3_ a4_ a5_ a1_).ev
noncomputable def wbsd : Sh := (.cons (.arr 64) (.cons (.dat yi) (.cons (.dat yi) (.cons (.dat yi) (.cons (.clo [y1, y1] yi) .nil)))))
noncomputable def wbse : List (Nat × OSh) := [(64, .perm 22 3 yi)]
noncomputable def K_zbj : RetK := { acts := [], res := [.tmp 10, .tmp 11], sh := (.cons (.dat yi) (.cons (.dat .bool) .nil)), obs := [(64, .perm 22 3 yi)], pins := [(0, 0, 64)] }
noncomputable def D_zbj : FD := ⟨wbsd, wbse, [.arg 0], Int × (Bool × ((List Nat) × Y2)), fun x => wgf x.1.2.1 x.1.2.2.1 x.1.2.2.2.1 x.1.2.2.2.2.1 x.2.1, fun r => ([.dat yi r.1, .dat .bool r.2.1], [(64, .perm false 22 3 yi r.2.2.1 r.2.2.2)])⟩
noncomputable def wvg : Env := wae []
noncomputable def wvh : Nat → Nat → List Nat := fun _ _ => []
noncomputable def wvi : List (Nat × LD) := [(0, wqv), (2, wqx), (6, wqz), (8, wrb), (4, wrd)]
noncomputable def wre : Code := (f222.body).getD .skip
noncomputable def wrf (rec_ : (Int) → (Int) → (Int) → ((HL [y1, y1] → Option (Int))) → ((List Nat) × Y2) → Option ((List Nat) × Y2)) (k : (HL [y1, y1] → Option (Int))) (v : Int × (Int × (Int × (Bool × (Bool × ((List Nat) × Y2)))))) : Tr ((Int × (Int × (Int × (Bool × (Bool × ((List Nat) × Y2)))))) ⊕ ((List Nat) × Y2)) :=
 .t (decide ((IntKind.wrap .i64 (v.2.1 - v.1)) ≤ (12 : Int)))
 (.c ((List Nat) × Y2) (wavu v.1 v.2.1 k v.2.2.2.2.2) fun r8_ =>
 .l (.inr r8_))
 (.t (v.2.2.1 == (0 : Int))
 (.f)
 (.t (!v.2.2.2.1)
 (.c ((List Nat) × Y2) (wavv v.1 v.2.1 k v.2.2.2.2.2) fun r9_ =>
 .c (Int × Int) (wajf (waz r9_.1 r9_.2) v.1 v.2.1 k) fun r10_ =>
 .t (r10_.2 == (2 : Int))
 (.f)
 (.t v.2.2.2.1
 (.t v.2.2.2.2.1
 (.t (r10_.2 == (1 : Int))
 (.f)
 (.t (decide ((0 : Int) < v.1))
 (.g (inR (IntKind.wrap .i64 (v.1 - (1 : Int))) (List.length r9_.1)) <|
 .g (decide ((Int.toNat (IntKind.wrap .i64 (v.1 - (1 : Int)))) < List.length r9_.1) && decide ((List.getD r9_.1 (Int.toNat (IntKind.wrap .i64 (v.1 - (1 : Int)))) 0) < List.length r9_.2)) <|
 .g (inR r10_.1 (List.length r9_.1)) <|
 .g (decide ((Int.toNat r10_.1) < List.length r9_.1) && decide ((List.getD r9_.1 (Int.toNat r10_.1) 0) < List.length r9_.2)) <|
 .c (Int) (k ((List.getD r9_.2 (List.getD r9_.1 (Int.toNat (IntKind.wrap .i64 (v.1 - (1 : Int)))) 0) ([] : Y1)), ((List.getD r9_.2 (List.getD r9_.1 (Int.toNat r10_.1) 0) ([] : Y1)), ()))) fun r11_ =>
 .t (!(decide (r11_ < (0 : Int))))
 (.f)
 (.c (Int × (Bool × ((List Nat) × Y2))) (wgf v.1 v.2.1 r10_.1 k r9_) fun r12_ =>
 .g (!decide ((8 : Int) = 0)) <|
 .t (decide ((IntKind.wrap .i64 (r12_.1 - v.1)) < (IntKind.wrap .i64 (v.2.1 - r12_.1))))
 (.c ((List Nat) × Y2) (rec_ v.1 r12_.1 (IntKind.wrap .i64 (v.2.2.1 - (1 : Int))) k r12_.2.2) fun r13_ =>
 .l (.inl ((IntKind.wrap .i64 (r12_.1 + (1 : Int))), (v.2.1, ((IntKind.wrap .i64 (v.2.2.1 - (1 : Int))), ((decide ((IntKind.wrap .i64 (Int.tdiv (IntKind.wrap .i64 (v.2.1 - v.1)) (8 : Int))) ≤ (IntKind.wrap .i64 (r12_.1 - v.1)))), (r12_.2.1, r13_)))))))
 (.c ((List Nat) × Y2) (rec_ (IntKind.wrap .i64 (r12_.1 + (1 : Int))) v.2.1 (IntKind.wrap .i64 (v.2.2.1 - (1 : Int))) k r12_.2.2) fun r14_ =>
 .l (.inl (v.1, (r12_.1, ((IntKind.wrap .i64 (v.2.2.1 - (1 : Int))), ((decide ((IntKind.wrap .i64 (Int.tdiv (IntKind.wrap .i64 (v.2.1 - v.1)) (8 : Int))) ≤ (IntKind.wrap .i64 (v.2.1 - r12_.1)))), (r12_.2.1, r14_)))))))))
 (.c (Int × (Bool × ((List Nat) × Y2))) (wgf v.1 v.2.1 r10_.1 k r9_) fun r15_ =>
 .g (!decide ((8 : Int) = 0)) <|
 .t (decide ((IntKind.wrap .i64 (r15_.1 - v.1)) < (IntKind.wrap .i64 (v.2.1 - r15_.1))))
 (.c ((List Nat) × Y2) (rec_ v.1 r15_.1 (IntKind.wrap .i64 (v.2.2.1 - (1 : Int))) k r15_.2.2) fun r16_ =>
 .l (.inl ((IntKind.wrap .i64 (r15_.1 + (1 : Int))), (v.2.1, ((IntKind.wrap .i64 (v.2.2.1 - (1 : Int))), ((decide ((IntKind.wrap .i64 (Int.tdiv (IntKind.wrap .i64 (v.2.1 - v.1)) (8 : Int))) ≤ (IntKind.wrap .i64 (r15_.1 - v.1)))), (r15_.2.1, r16_)))))))
 (.c ((List Nat) × Y2) (rec_ (IntKind.wrap .i64 (r15_.1 + (1 : Int))) v.2.1 (IntKind.wrap .i64 (v.2.2.1 - (1 : Int))) k r15_.2.2) fun r17_ =>
 .l (.inl (v.1, (r15_.1, ((IntKind.wrap .i64 (v.2.2.1 - (1 : Int))), ((decide ((IntKind.wrap .i64 (Int.tdiv (IntKind.wrap .i64 (v.2.1 - v.1)) (8 : Int))) ≤ (IntKind.wrap .i64 (v.2.1 - r15_.1)))), (r15_.2.1, r17_))))))))))
 (.t (decide ((0 : Int) < v.1))
 (.g (inR (IntKind.wrap .i64 (v.1 - (1 : Int))) (List.length r9_.1)) <|
 .g (decide ((Int.toNat (IntKind.wrap .i64 (v.1 - (1 : Int)))) < List.length r9_.1) && decide ((List.getD r9_.1 (Int.toNat (IntKind.wrap .i64 (v.1 - (1 : Int)))) 0) < List.length r9_.2)) <|
 .g (inR r10_.1 (List.length r9_.1)) <|
 .g (decide ((Int.toNat r10_.1) < List.length r9_.1) && decide ((List.getD r9_.1 (Int.toNat r10_.1) 0) < List.length r9_.2)) <|
 .c (Int) (k ((List.getD r9_.2 (List.getD r9_.1 (Int.toNat (IntKind.wrap .i64 (v.1 - (1 : Int)))) 0) ([] : Y1)), ((List.getD r9_.2 (List.getD r9_.1 (Int.toNat r10_.1) 0) ([] : Y1)), ()))) fun r18_ =>
 .t (!(decide (r18_ < (0 : Int))))
 (.f)
 (.c (Int × (Bool × ((List Nat) × Y2))) (wgf v.1 v.2.1 r10_.1 k r9_) fun r19_ =>
 .g (!decide ((8 : Int) = 0)) <|
 .t (decide ((IntKind.wrap .i64 (r19_.1 - v.1)) < (IntKind.wrap .i64 (v.2.1 - r19_.1))))
 (.c ((List Nat) × Y2) (rec_ v.1 r19_.1 (IntKind.wrap .i64 (v.2.2.1 - (1 : Int))) k r19_.2.2) fun r20_ =>
 .l (.inl ((IntKind.wrap .i64 (r19_.1 + (1 : Int))), (v.2.1, ((IntKind.wrap .i64 (v.2.2.1 - (1 : Int))), ((decide ((IntKind.wrap .i64 (Int.tdiv (IntKind.wrap .i64 (v.2.1 - v.1)) (8 : Int))) ≤ (IntKind.wrap .i64 (r19_.1 - v.1)))), (r19_.2.1, r20_)))))))
 (.c ((List Nat) × Y2) (rec_ (IntKind.wrap .i64 (r19_.1 + (1 : Int))) v.2.1 (IntKind.wrap .i64 (v.2.2.1 - (1 : Int))) k r19_.2.2) fun r21_ =>
 .l (.inl (v.1, (r19_.1, ((IntKind.wrap .i64 (v.2.2.1 - (1 : Int))), ((decide ((IntKind.wrap .i64 (Int.tdiv (IntKind.wrap .i64 (v.2.1 - v.1)) (8 : Int))) ≤ (IntKind.wrap .i64 (v.2.1 - r19_.1)))), (r19_.2.1, r21_)))))))))
 (.c (Int × (Bool × ((List Nat) × Y2))) (wgf v.1 v.2.1 r10_.1 k r9_) fun r22_ =>
 .g (!decide ((8 : Int) = 0)) <|
 .t (decide ((IntKind.wrap .i64 (r22_.1 - v.1)) < (IntKind.wrap .i64 (v.2.1 - r22_.1))))
 (.c ((List Nat) × Y2) (rec_ v.1 r22_.1 (IntKind.wrap .i64 (v.2.2.1 - (1 : Int))) k r22_.2.2) fun r23_ =>
 .l (.inl ((IntKind.wrap .i64 (r22_.1 + (1 : Int))), (v.2.1, ((IntKind.wrap .i64 (v.2.2.1 - (1 : Int))), ((decide ((IntKind.wrap .i64 (Int.tdiv (IntKind.wrap .i64 (v.2.1 - v.1)) (8 : Int))) ≤ (IntKind.wrap .i64 (r22_.1 - v.1)))), (r22_.2.1, r23_)))))))
 (.c ((List Nat) × Y2) (rec_ (IntKind.wrap .i64 (r22_.1 + (1 : Int))) v.2.1 (IntKind.wrap .i64 (v.2.2.1 - (1 : Int))) k r22_.2.2) fun r24_ =>
 .l (.inl (v.1, (r22_.1, ((IntKind.wrap .i64 (v.2.2.1 - (1 : Int))), ((decide ((IntKind.wrap .i64 (Int.tdiv (IntKind.wrap .i64 (v.2.1 - v.1)) (8 : Int))) ≤ (IntKind.wrap .i64 (v.2.1 - r22_.1)))), (r22_.2.1, r24_))))))))))
 (.t (decide ((0 : Int) < v.1))
 (.g (inR (IntKind.wrap .i64 (v.1 - (1 : Int))) (List.length r9_.1)) <|
 .g (decide ((Int.toNat (IntKind.wrap .i64 (v.1 - (1 : Int)))) < List.length r9_.1) && decide ((List.getD r9_.1 (Int.toNat (IntKind.wrap .i64 (v.1 - (1 : Int)))) 0) < List.length r9_.2)) <|
 .g (inR r10_.1 (List.length r9_.1)) <|
 .g (decide ((Int.toNat r10_.1) < List.length r9_.1) && decide ((List.getD r9_.1 (Int.toNat r10_.1) 0) < List.length r9_.2)) <|
 .c (Int) (k ((List.getD r9_.2 (List.getD r9_.1 (Int.toNat (IntKind.wrap .i64 (v.1 - (1 : Int)))) 0) ([] : Y1)), ((List.getD r9_.2 (List.getD r9_.1 (Int.toNat r10_.1) 0) ([] : Y1)), ()))) fun r25_ =>
 .t (!(decide (r25_ < (0 : Int))))
 (.f)
 (.c (Int × (Bool × ((List Nat) × Y2))) (wgf v.1 v.2.1 r10_.1 k r9_) fun r26_ =>
 .g (!decide ((8 : Int) = 0)) <|
 .t (decide ((IntKind.wrap .i64 (r26_.1 - v.1)) < (IntKind.wrap .i64 (v.2.1 - r26_.1))))
 (.c ((List Nat) × Y2) (rec_ v.1 r26_.1 (IntKind.wrap .i64 (v.2.2.1 - (1 : Int))) k r26_.2.2) fun r27_ =>
 .l (.inl ((IntKind.wrap .i64 (r26_.1 + (1 : Int))), (v.2.1, ((IntKind.wrap .i64 (v.2.2.1 - (1 : Int))), ((decide ((IntKind.wrap .i64 (Int.tdiv (IntKind.wrap .i64 (v.2.1 - v.1)) (8 : Int))) ≤ (IntKind.wrap .i64 (r26_.1 - v.1)))), (r26_.2.1, r27_)))))))
 (.c ((List Nat) × Y2) (rec_ (IntKind.wrap .i64 (r26_.1 + (1 : Int))) v.2.1 (IntKind.wrap .i64 (v.2.2.1 - (1 : Int))) k r26_.2.2) fun r28_ =>
 .l (.inl (v.1, (r26_.1, ((IntKind.wrap .i64 (v.2.2.1 - (1 : Int))), ((decide ((IntKind.wrap .i64 (Int.tdiv (IntKind.wrap .i64 (v.2.1 - v.1)) (8 : Int))) ≤ (IntKind.wrap .i64 (v.2.1 - r26_.1)))), (r26_.2.1, r28_)))))))))
 (.c (Int × (Bool × ((List Nat) × Y2))) (wgf v.1 v.2.1 r10_.1 k r9_) fun r29_ =>
 .g (!decide ((8 : Int) = 0)) <|
 .t (decide ((IntKind.wrap .i64 (r29_.1 - v.1)) < (IntKind.wrap .i64 (v.2.1 - r29_.1))))
 (.c ((List Nat) × Y2) (rec_ v.1 r29_.1 (IntKind.wrap .i64 (v.2.2.1 - (1 : Int))) k r29_.2.2) fun r30_ =>
 .l (.inl ((IntKind.wrap .i64 (r29_.1 + (1 : Int))), (v.2.1, ((IntKind.wrap .i64 (v.2.2.1 - (1 : Int))), ((decide ((IntKind.wrap .i64 (Int.tdiv (IntKind.wrap .i64 (v.2.1 - v.1)) (8 : Int))) ≤ (IntKind.wrap .i64 (r29_.1 - v.1)))), (r29_.2.1, r30_)))))))
 (.c ((List Nat) × Y2) (rec_ (IntKind.wrap .i64 (r29_.1 + (1 : Int))) v.2.1 (IntKind.wrap .i64 (v.2.2.1 - (1 : Int))) k r29_.2.2) fun r31_ =>
 .l (.inl (v.1, (r29_.1, ((IntKind.wrap .i64 (v.2.2.1 - (1 : Int))), ((decide ((IntKind.wrap .i64 (Int.tdiv (IntKind.wrap .i64 (v.2.1 - v.1)) (8 : Int))) ≤ (IntKind.wrap .i64 (v.2.1 - r29_.1)))), (r29_.2.1, r31_)))))))))))
 (.c (Int × Int) (wajf (waz v.2.2.2.2.2.1 v.2.2.2.2.2.2) v.1 v.2.1 k) fun r32_ =>
 .t (r32_.2 == (2 : Int))
 (.f)
 (.t v.2.2.2.1
 (.t v.2.2.2.2.1
 (.t (r32_.2 == (1 : Int))
 (.f)
 (.t (decide ((0 : Int) < v.1))
 (.g (inR (IntKind.wrap .i64 (v.1 - (1 : Int))) (List.length v.2.2.2.2.2.1)) <|
 .g (decide ((Int.toNat (IntKind.wrap .i64 (v.1 - (1 : Int)))) < List.length v.2.2.2.2.2.1) && decide ((List.getD v.2.2.2.2.2.1 (Int.toNat (IntKind.wrap .i64 (v.1 - (1 : Int)))) 0) < List.length v.2.2.2.2.2.2)) <|
 .g (inR r32_.1 (List.length v.2.2.2.2.2.1)) <|
 .g (decide ((Int.toNat r32_.1) < List.length v.2.2.2.2.2.1) && decide ((List.getD v.2.2.2.2.2.1 (Int.toNat r32_.1) 0) < List.length v.2.2.2.2.2.2)) <|
 .c (Int) (k ((List.getD v.2.2.2.2.2.2 (List.getD v.2.2.2.2.2.1 (Int.toNat (IntKind.wrap .i64 (v.1 - (1 : Int)))) 0) ([] : Y1)), ((List.getD v.2.2.2.2.2.2 (List.getD v.2.2.2.2.2.1 (Int.toNat r32_.1) 0) ([] : Y1)), ()))) fun r33_ =>
 .t (!(decide (r33_ < (0 : Int))))
 (.f)
 (.c (Int × (Bool × ((List Nat) × Y2))) (wgf v.1 v.2.1 r32_.1 k v.2.2.2.2.2) fun r34_ =>
 .g (!decide ((8 : Int) = 0)) <|
 .t (decide ((IntKind.wrap .i64 (r34_.1 - v.1)) < (IntKind.wrap .i64 (v.2.1 - r34_.1))))
 (.c ((List Nat) × Y2) (rec_ v.1 r34_.1 v.2.2.1 k r34_.2.2) fun r35_ =>
 .l (.inl ((IntKind.wrap .i64 (r34_.1 + (1 : Int))), (v.2.1, (v.2.2.1, ((decide ((IntKind.wrap .i64 (Int.tdiv (IntKind.wrap .i64 (v.2.1 - v.1)) (8 : Int))) ≤ (IntKind.wrap .i64 (r34_.1 - v.1)))), (r34_.2.1, r35_)))))))
 (.c ((List Nat) × Y2) (rec_ (IntKind.wrap .i64 (r34_.1 + (1 : Int))) v.2.1 v.2.2.1 k r34_.2.2) fun r36_ =>
 .l (.inl (v.1, (r34_.1, (v.2.2.1, ((decide ((IntKind.wrap .i64 (Int.tdiv (IntKind.wrap .i64 (v.2.1 - v.1)) (8 : Int))) ≤ (IntKind.wrap .i64 (v.2.1 - r34_.1)))), (r34_.2.1, r36_)))))))))
 (.c (Int × (Bool × ((List Nat) × Y2))) (wgf v.1 v.2.1 r32_.1 k v.2.2.2.2.2) fun r37_ =>
 .g (!decide ((8 : Int) = 0)) <|
 .t (decide ((IntKind.wrap .i64 (r37_.1 - v.1)) < (IntKind.wrap .i64 (v.2.1 - r37_.1))))
 (.c ((List Nat) × Y2) (rec_ v.1 r37_.1 v.2.2.1 k r37_.2.2) fun r38_ =>
 .l (.inl ((IntKind.wrap .i64 (r37_.1 + (1 : Int))), (v.2.1, (v.2.2.1, ((decide ((IntKind.wrap .i64 (Int.tdiv (IntKind.wrap .i64 (v.2.1 - v.1)) (8 : Int))) ≤ (IntKind.wrap .i64 (r37_.1 - v.1)))), (r37_.2.1, r38_)))))))
 (.c ((List Nat) × Y2) (rec_ (IntKind.wrap .i64 (r37_.1 + (1 : Int))) v.2.1 v.2.2.1 k r37_.2.2) fun r39_ =>
 .l (.inl (v.1, (r37_.1, (v.2.2.1, ((decide ((IntKind.wrap .i64 (Int.tdiv (IntKind.wrap .i64 (v.2.1 - v.1)) (8 : Int))) ≤ (IntKind.wrap .i64 (v.2.1 - r37_.1)))), (r37_.2.1, r39_))))))))))
 (.t (decide ((0 : Int) < v.1))
 (.g (inR (IntKind.wrap .i64 (v.1 - (1 : Int))) (List.length v.2.2.2.2.2.1)) <|
 .g (decide ((Int.toNat (IntKind.wrap .i64 (v.1 - (1 : Int)))) < List.length v.2.2.2.2.2.1) && decide ((List.getD v.2.2.2.2.2.1 (Int.toNat (IntKind.wrap .i64 (v.1 - (1 : Int)))) 0) < List.length v.2.2.2.2.2.2)) <|
 .g (inR r32_.1 (List.length v.2.2.2.2.2.1)) <|
 .g (decide ((Int.toNat r32_.1) < List.length v.2.2.2.2.2.1) && decide ((List.getD v.2.2.2.2.2.1 (Int.toNat r32_.1) 0) < List.length v.2.2.2.2.2.2)) <|
 .c (Int) (k ((List.getD v.2.2.2.2.2.2 (List.getD v.2.2.2.2.2.1 (Int.toNat (IntKind.wrap .i64 (v.1 - (1 : Int)))) 0) ([] : Y1)), ((List.getD v.2.2.2.2.2.2 (List.getD v.2.2.2.2.2.1 (Int.toNat r32_.1) 0) ([] : Y1)), ()))) fun r40_ =>
 .t (!(decide (r40_ < (0 : Int))))
 (.f)
 (.c (Int × (Bool × ((List Nat) × Y2))) (wgf v.1 v.2.1 r32_.1 k v.2.2.2.2.2) fun r41_ =>
 .g (!decide ((8 : Int) = 0)) <|
 .t (decide ((IntKind.wrap .i64 (r41_.1 - v.1)) < (IntKind.wrap .i64 (v.2.1 - r41_.1))))
 (.c ((List Nat) × Y2) (rec_ v.1 r41_.1 v.2.2.1 k r41_.2.2) fun r42_ =>
 .l (.inl ((IntKind.wrap .i64 (r41_.1 + (1 : Int))), (v.2.1, (v.2.2.1, ((decide ((IntKind.wrap .i64 (Int.tdiv (IntKind.wrap .i64 (v.2.1 - v.1)) (8 : Int))) ≤ (IntKind.wrap .i64 (r41_.1 - v.1)))), (r41_.2.1, r42_)))))))
 (.c ((List Nat) × Y2) (rec_ (IntKind.wrap .i64 (r41_.1 + (1 : Int))) v.2.1 v.2.2.1 k r41_.2.2) fun r43_ =>
 .l (.inl (v.1, (r41_.1, (v.2.2.1, ((decide ((IntKind.wrap .i64 (Int.tdiv (IntKind.wrap .i64 (v.2.1 - v.1)) (8 : Int))) ≤ (IntKind.wrap .i64 (v.2.1 - r41_.1)))), (r41_.2.1, r43_)))))))))
 (.c (Int × (Bool × ((List Nat) × Y2))) (wgf v.1 v.2.1 r32_.1 k v.2.2.2.2.2) fun r44_ =>
 .g (!decide ((8 : Int) = 0)) <|
 .t (decide ((IntKind.wrap .i64 (r44_.1 - v.1)) < (IntKind.wrap .i64 (v.2.1 - r44_.1))))
 (.c ((List Nat) × Y2) (rec_ v.1 r44_.1 v.2.2.1 k r44_.2.2) fun r45_ =>
 .l (.inl ((IntKind.wrap .i64 (r44_.1 + (1 : Int))), (v.2.1, (v.2.2.1, ((decide ((IntKind.wrap .i64 (Int.tdiv (IntKind.wrap .i64 (v.2.1 - v.1)) (8 : Int))) ≤ (IntKind.wrap .i64 (r44_.1 - v.1)))), (r44_.2.1, r45_)))))))
 (.c ((List Nat) × Y2) (rec_ (IntKind.wrap .i64 (r44_.1 + (1 : Int))) v.2.1 v.2.2.1 k r44_.2.2) fun r46_ =>
 .l (.inl (v.1, (r44_.1, (v.2.2.1, ((decide ((IntKind.wrap .i64 (Int.tdiv (IntKind.wrap .i64 (v.2.1 - v.1)) (8 : Int))) ≤ (IntKind.wrap .i64 (v.2.1 - r44_.1)))), (r44_.2.1, r46_))))))))))
 (.t (decide ((0 : Int) < v.1))
 (.g (inR (IntKind.wrap .i64 (v.1 - (1 : Int))) (List.length v.2.2.2.2.2.1)) <|
 .g (decide ((Int.toNat (IntKind.wrap .i64 (v.1 - (1 : Int)))) < List.length v.2.2.2.2.2.1) && decide ((List.getD v.2.2.2.2.2.1 (Int.toNat (IntKind.wrap .i64 (v.1 - (1 : Int)))) 0) < List.length v.2.2.2.2.2.2)) <|
 .g (inR r32_.1 (List.length v.2.2.2.2.2.1)) <|
 .g (decide ((Int.toNat r32_.1) < List.length v.2.2.2.2.2.1) && decide ((List.getD v.2.2.2.2.2.1 (Int.toNat r32_.1) 0) < List.length v.2.2.2.2.2.2)) <|
 .c (Int) (k ((List.getD v.2.2.2.2.2.2 (List.getD v.2.2.2.2.2.1 (Int.toNat (IntKind.wrap .i64 (v.1 - (1 : Int)))) 0) ([] : Y1)), ((List.getD v.2.2.2.2.2.2 (List.getD v.2.2.2.2.2.1 (Int.toNat r32_.1) 0) ([] : Y1)), ()))) fun r47_ =>
 .t (!(decide (r47_ < (0 : Int))))
 (.f)
 (.c (Int × (Bool × ((List Nat) × Y2))) (wgf v.1 v.2.1 r32_.1 k v.2.2.2.2.2) fun r48_ =>
 .g (!decide ((8 : Int) = 0)) <|
 .t (decide ((IntKind.wrap .i64 (r48_.1 - v.1)) < (IntKind.wrap .i64 (v.2.1 - r48_.1))))
 (.c ((List Nat) × Y2) (rec_ v.1 r48_.1 v.2.2.1 k r48_.2.2) fun r49_ =>
 .l (.inl ((IntKind.wrap .i64 (r48_.1 + (1 : Int))), (v.2.1, (v.2.2.1, ((decide ((IntKind.wrap .i64 (Int.tdiv (IntKind.wrap .i64 (v.2.1 - v.1)) (8 : Int))) ≤ (IntKind.wrap .i64 (r48_.1 - v.1)))), (r48_.2.1, r49_)))))))
 (.c ((List Nat) × Y2) (rec_ (IntKind.wrap .i64 (r48_.1 + (1 : Int))) v.2.1 v.2.2.1 k r48_.2.2) fun r50_ =>
 .l (.inl (v.1, (r48_.1, (v.2.2.1, ((decide ((IntKind.wrap .i64 (Int.tdiv (IntKind.wrap .i64 (v.2.1 - v.1)) (8 : Int))) ≤ (IntKind.wrap .i64 (v.2.1 - r48_.1)))), (r48_.2.1, r50_)))))))))
 (.c (Int × (Bool × ((List Nat) × Y2))) (wgf v.1 v.2.1 r32_.1 k v.2.2.2.2.2) fun r51_ =>
 .g (!decide ((8 : Int) = 0)) <|
 .t (decide ((IntKind.wrap .i64 (r51_.1 - v.1)) < (IntKind.wrap .i64 (v.2.1 - r51_.1))))
 (.c ((List Nat) × Y2) (rec_ v.1 r51_.1 v.2.2.1 k r51_.2.2) fun r52_ =>
 .l (.inl ((IntKind.wrap .i64 (r51_.1 + (1 : Int))), (v.2.1, (v.2.2.1, ((decide ((IntKind.wrap .i64 (Int.tdiv (IntKind.wrap .i64 (v.2.1 - v.1)) (8 : Int))) ≤ (IntKind.wrap .i64 (r51_.1 - v.1)))), (r51_.2.1, r52_)))))))
 (.c ((List Nat) × Y2) (rec_ (IntKind.wrap .i64 (r51_.1 + (1 : Int))) v.2.1 v.2.2.1 k r51_.2.2) fun r53_ =>
 .l (.inl (v.1, (r51_.1, (v.2.2.1, ((decide ((IntKind.wrap .i64 (Int.tdiv (IntKind.wrap .i64 (v.2.1 - v.1)) (8 : Int))) ≤ (IntKind.wrap .i64 (v.2.1 - r51_.1)))), (r51_.2.1, r53_)))))))))))))
noncomputable def wyf (rec_ : (Int) → (Int) → (Int) → ((HL [y1, y1] → Option (Int))) → ((List Nat) × Y2) → Option ((List Nat) × Y2)) (k : (HL [y1, y1] → Option (Int))) (v : Int × (Int × (Int × (Bool × (Bool × ((List Nat) × Y2)))))) : Option ((List Nat) × Y2) := iter (fun v => (wrf rec_ k v).ev) v
noncomputable def wrg (rec_ : (Int) → (Int) → (Int) → ((HL [y1, y1] → Option (Int))) → ((List Nat) × Y2) → Option ((List Nat) × Y2)) : LD where
 head := { acts := [], S := { slots := [0, 1, 2, 3, 4, 10, 11], sh := (.cons (.arr 64) (.cons (.dat yi) (.cons (.dat yi) (.cons (.dat yi) (.cons (.clo [y1, y1] yi) (.cons (.dat .bool) (.cons (.dat .bool) .nil))))))), obs := [(64, .perm 22 3 yi)] } }
 exits := []
 rets := { acts := [], S := { slots := [0], sh := (.cons (.arr 64) .nil), obs := [(64, .perm 22 3 yi)] } }
 K := (HL [y1, y1] → Option (Int))
 V := Int × (Int × (Int × (Bool × (Bool × ((List Nat) × Y2)))))
 R := (List Nat) × Y2
 join := fun k v => (((), (v.1, (v.2.1, (v.2.2.1, (k, (v.2.2.2.1, (v.2.2.2.2.1, ()))))))), (v.2.2.2.2.2, ()))
 sk := fun t => t.1.2.2.2.2.1
 sv := fun t => (t.1.2.1, (t.1.2.2.1, (t.1.2.2.2.1, (t.1.2.2.2.2.2.1, (t.1.2.2.2.2.2.2.1, t.2.1)))))
 step := wrf rec_
 leaf := fun _ r => .l (.ret (wav ({ slots := [0], sh := (.cons (.arr 64) .nil), obs := [(64, .perm 22 3 yi)] }) (((), ()), (r, ()))))
noncomputable def wajh (rec_ : (Int) → (Int) → (Int) → ((HL [y1, y1] → Option (Int))) → ((List Nat) × Y2) → Option ((List Nat) × Y2)) (a2_ : Int) (a3_ : Int) (a4_ : Int) (a5_ : (HL [y1, y1] → Option (Int))) (a1_ : (List Nat) × Y2) : Tr ((List Nat) × Y2) :=
 .c ((List Nat) × Y2) (wyf rec_ a5_ (a2_, (a3_, (a4_, (true, (true, a1_)))))) fun r55_ =>
 .l r55_
noncomputable def wmu : Nat → (Int) → (Int) → (Int) → ((HL [y1, y1] → Option (Int))) → ((List Nat) × Y2) → Option ((List Nat) × Y2)
 | 0 => fun _ _ _ _ _ => none
 | n + 1 => fun a2_ a3_ a4_ a5_ a1_ => (wajh (wmu n) a2_ a3_ a4_ a5_ a1_).ev
noncomputable def wbsf : Sh := (.cons (.arr 64) (.cons (.dat yi) (.cons (.dat yi) (.cons (.dat yi) (.cons (.clo [y1, y1] yi) .nil)))))
noncomputable def wbsg : List (Nat × OSh) := [(64, .perm 22 3 yi)]
noncomputable def K_zbl : RetK := { acts := [], res := [], sh := .nil, obs := [(64, .perm 22 3 yi)], pins := [(0, 0, 64)] }
noncomputable def waji (rec_ : (Int) → (Int) → (Int) → ((HL [y1, y1] → Option (Int))) → ((List Nat) × Y2) → Option ((List Nat) × Y2)) : FD where
 A := wbsf
 ins := wbsg
 lend := [.arg 0]
 R := (List Nat) × Y2
 F := fun x => rec_ x.1.2.1 x.1.2.2.1 x.1.2.2.2.1 x.1.2.2.2.2.1 x.2.1
 emb := fun r => ([], [(64, .perm false 22 3 yi r.1 r.2)])
noncomputable def wbjd (n : Nat) : FD := waji (wmu n)
noncomputable def wavz (rec_ : (Int) → (Int) → (Int) → ((HL [y1, y1] → Option (Int))) → ((List Nat) × Y2) → Option ((List Nat) × Y2)) : Env := wae [(215, D_zba), (217, D_zaw), (218, D_zay), (222, D_zbj), (198, waji rec_)]
noncomputable def wawa : Nat → Nat → List Nat := fun _ _ => []
noncomputable def wawb (rec_ : (Int) → (Int) → (Int) → ((HL [y1, y1] → Option (Int))) → ((List Nat) × Y2) → Option ((List Nat) × Y2)) : List (Nat × LD) := [(0, wrg rec_)]
noncomputable def wajj : Code := (f198.body).getD .skip
noncomputable def wajk (a2_ : (HL [y1, y1] → Option (Int))) (a1_ : (List Nat) × Y2) : Tr ((List Nat) × Y2) :=
 .c (Int) (wxt (IntKind.wrap .u64 ((List.length a1_.1 : Nat) : Int))) fun r1_ =>
 .c ((List Nat) × Y2) (wmu 1000000 (0 : Int) ((List.length a1_.1 : Nat) : Int) r1_ a2_ a1_) fun r2_ =>
 .l r2_
noncomputable def wawc (a2_ : (HL [y1, y1] → Option (Int))) (a1_ : (List Nat) × Y2) : Option ((List Nat) × Y2) := (wajk a2_ a1_).ev
noncomputable def wbsh : Sh := (.cons (.arr 64) (.cons (.clo [y1, y1] yi) .nil))
noncomputable def wbsi : List (Nat × OSh) := [(64, .perm 22 3 yi)]
noncomputable def K_zas : RetK := { acts := [], res := [], sh := .nil, obs := [(64, .perm 22 3 yi)], pins := [(0, 0, 64)] }
noncomputable def D_zas : FD := ⟨wbsh, wbsi, [.arg 0], (List Nat) × Y2, fun x => wawc x.1.2.1 x.2.1, fun r => ([], [(64, .perm false 22 3 yi r.1 r.2)])⟩
noncomputable def wbje : Env := wae [(189, D_zaj), (198, wbjd 1000000)]
noncomputable def wbjf : Nat → Nat → List Nat := fun _ _ => []
noncomputable def wbjg : List (Nat × LD) := []
noncomputable def wbjh : Code := (f180.body).getD .skip
noncomputable def T_za (a1_ : Int) (a2_ : Int) : Tr (Int) :=
 .c (Bool) (F_zd a1_) fun r1_ =>
 .c (Bool) (F_zd a2_) fun r2_ =>
 .t r1_
 (.t r2_
 (.l (0 : Int))
 (.l (-1 : Int)))
 (.t r2_
 (.l (1 : Int))
 (.t (decide (a1_ < a2_))
 (.l (-1 : Int))
 (.t (decide (a2_ < a1_))
 (.l (1 : Int))
 (.l (0 : Int)))))
noncomputable def F_za (a1_ : Int) (a2_ : Int) : Option (Int) := (T_za a1_ a2_).ev
def A_za : Sh := (.cons (.dat yi) (.cons (.dat yi) .nil))
def I_za : List (Nat × OSh) := []
noncomputable def K_za : RetK := { acts := [], res := [.tmp 4], sh := (.cons (.dat yi) .nil), obs := [], pins := [] }
noncomputable def D_za : FD := ⟨A_za, I_za, [], Int, fun x => F_za x.1.1 x.1.2.1, fun r => ([.dat yi r], [])⟩
noncomputable def E_za : Env := wae [(193, D_zd)]
def Z_za : Nat → Nat → List Nat := fun _ _ => []
noncomputable def O_za : List (Nat × LD) := []
noncomputable def C_za : Code := (f163.body).getD .skip
noncomputable def wrh (k : Y1 × (Y1 × (Y1 × Int))) (v : Int) : Tr ((Int) ⊕ ((Unit) ⊕ (Int))) :=
 .t (decide (v < k.2.2.2))
 (.g (inR v (List.length k.2.2.1)) <|
 .t (decide (((List.length k.2.1 : Nat) : Int) ≤ v))
 (.l (.inr (.inr (1 : Int))))
 (.g (inR v (List.length k.2.1)) <|
 .c (Int) (F_za (List.getD k.2.2.1 (Int.toNat v) (0 : Int)) (List.getD k.2.1 (Int.toNat v) (0 : Int))) fun r6_ =>
 .t (r6_ != (0 : Int))
 (.l (.inr (.inr r6_)))
 (.l (.inl (IntKind.wrap .i64 (v + (1 : Int)))))))
 (.l (.inr (.inl ())))
noncomputable def wyg (k : Y1 × (Y1 × (Y1 × Int))) (v : Int) : Option ((Unit) ⊕ (Int)) := iter (fun v => (wrh k v).ev) v
noncomputable def wri : LD := ⟨(yh [0, 1, 9, 10, 11] (.cons (.dat y1) (.cons (.dat y1) (.cons (.dat y1) (.cons (.dat yi) (.cons (.dat yi) .nil)))))), [(0, (yh [0, 1] (.cons (.dat y1) (.cons (.dat y1) .nil))))], (yh [4] (.cons (.dat yi) .nil)), Y1 × (Y1 × (Y1 × Int)), Int, (Unit) ⊕ (Int), fun k v => ((k.1, (k.2.1, (k.2.2.1, (k.2.2.2, (v, ()))))), ()), fun t => (t.1.1, (t.1.2.1, (t.1.2.2.1, t.1.2.2.2.1))), fun t => t.1.2.2.2.2.1, wrh, fun k r => .s (Unit) (Int) r (fun _ => .l (.exit 0 (wav ((ys [0, 1] (.cons (.dat y1) (.cons (.dat y1) .nil)))) ((k.1, (k.2.1, ())), ())))) (fun b => .l (.ret (wav ((ys [4] (.cons (.dat yi) .nil))) ((b, ()), ()))))⟩
noncomputable def wajl (a1_ : Y1) (a2_ : Y1) : Tr (Int) :=
 .c ((Unit) ⊕ (Int)) (wyg (a1_, (a2_, (a1_, ((List.length a1_ : Nat) : Int)))) (0 : Int)) fun r10_ =>
 .s (Unit) (Int) r10_
 (fun _ => .t (decide (((List.length a1_ : Nat) : Int) < ((List.length a2_ : Nat) : Int)))
 (.l (-1 : Int))
 (.l (0 : Int)))
 (fun r12_ => .l r12_)
noncomputable def wawd (a1_ : Y1) (a2_ : Y1) : Option (Int) := (wajl a1_ a2_).ev
noncomputable def wbsl : Sh := (.cons (.dat y1) (.cons (.dat y1) .nil))
noncomputable def wbsm : List (Nat × OSh) := []
noncomputable def K_zam : RetK := { acts := [], res := [.tmp 4], sh := (.cons (.dat yi) .nil), obs := [], pins := [] }
noncomputable def D_zam : FD := ⟨wbsl, wbsm, [], Int, fun x => wawd x.1.1 x.1.2.1, fun r => ([.dat yi r], [])⟩
noncomputable def wawe : Env := wae [(163, D_za)]
noncomputable def wawf : Nat → Nat → List Nat := fun _ _ => []
noncomputable def wawg : List (Nat × LD) := [(0, wri)]
noncomputable def wajm : Code := (f200.body).getD .skip
noncomputable def waap (k : Int × (Y1 × Int)) (v : Int) : Tr ((Int) ⊕ ((Unit) ⊕ (Int))) :=
 .t (decide (v < k.2.2))
 (.g (inR v (List.length k.2.1)) <|
 .t ((List.getD k.2.1 (Int.toNat v) (0 : Int)) != k.1)
 (.l (.inr (.inr (List.getD k.2.1 (Int.toNat v) (0 : Int)))))
 (.l (.inl (IntKind.wrap .i64 (v + (1 : Int))))))
 (.l (.inr (.inl ())))
noncomputable def wajn (k : Int × (Y1 × Int)) (v : Int) : Option ((Unit) ⊕ (Int)) := iter (fun v => (waap k v).ev) v
noncomputable def wyh : LD := ⟨(yh [3, 6, 7, 8] (.cons (.dat yi) (.cons (.dat y1) (.cons (.dat yi) (.cons (.dat yi) .nil))))), [(0, (yh [3] (.cons (.dat yi) .nil)))], (yh [2] (.cons (.dat yi) .nil)), Int × (Y1 × Int), Int, (Unit) ⊕ (Int), fun k v => ((k.1, (k.2.1, (k.2.2, (v, ())))), ()), fun t => (t.1.1, (t.1.2.1, t.1.2.2.1)), fun t => t.1.2.2.2.1, waap, fun k r => .s (Unit) (Int) r (fun _ => .l (.exit 0 (wav ((ys [3] (.cons (.dat yi) .nil))) ((k.1, ()), ())))) (fun b => .l (.ret (wav ((ys [2] (.cons (.dat yi) .nil))) ((b, ()), ()))))⟩
noncomputable def T_zc (a1_ : Y1) : Tr (Int) :=
 .c ((Unit) ⊕ (Int)) (wajn ((0 : Int), (a1_, ((List.length a1_ : Nat) : Int))) (0 : Int)) fun r7_ =>
 .s (Unit) (Int) r7_
 (fun _ => .l (0 : Int))
 (fun r9_ => .l r9_)
noncomputable def F_zc (a1_ : Y1) : Option (Int) := (T_zc a1_).ev
def A_zc : Sh := (.cons (.dat y1) .nil)
def I_zc : List (Nat × OSh) := []
noncomputable def K_zc : RetK := { acts := [], res := [.tmp 2], sh := (.cons (.dat yi) .nil), obs := [], pins := [] }
noncomputable def D_zc : FD := ⟨A_zc, I_zc, [], Int, fun x => F_zc x.1.1, fun r => ([.dat yi r], [])⟩
noncomputable def E_zc : Env := wae []
def Z_zc : Nat → Nat → List Nat := fun _ _ => []
noncomputable def O_zc : List (Nat × LD) := [(0, wyh)]
noncomputable def C_zc : Code := (f199.body).getD .skip
noncomputable def T_zx (a1_ : Y1) (a2_ : Y1) : Tr (Int) :=
 .c (Int) (F_za ((List.length a1_ : Nat) : Int) ((List.length a2_ : Nat) : Int)) fun r1_ =>
 .c (Int) (wawd a1_ a2_) fun r2_ =>
 .c (Int) (F_zc ([r1_, r2_] : Y1)) fun r3_ =>
 .l r3_
noncomputable def F_zx (a1_ : Y1) (a2_ : Y1) : Option (Int) := (T_zx a1_ a2_).ev
def A_zx : Sh := (.cons (.dat y1) (.cons (.dat y1) .nil))
def I_zx : List (Nat × OSh) := []
noncomputable def K_zx : RetK := { acts := [], res := [.tmp 4], sh := (.cons (.dat yi) .nil), obs := [], pins := [] }
noncomputable def D_zx : FD := ⟨A_zx, I_zx, [], Int, fun x => F_zx x.1.1 x.1.2.1, fun r => ([.dat yi r], [])⟩
noncomputable def E_zx : Env := wae [(163, D_za), (200, D_zam), (199, D_zc)]
def Z_zx : Nat → Nat → List Nat := fun _ _ => []
noncomputable def O_zx : List (Nat × LD) := []
noncomputable def C_zx : Code := (f181.body).getD .skip
noncomputable def wrj (k : Int) (v : Int × Y2) : Tr ((Int × Y2) ⊕ Y2) :=
 .g (decide ((0 : Int) ≤ k)) <|
 .t (decide (v.1 < (IntKind.wrap .u64 ((1 : Int) * 2 ^ (min (Int.toNat k) (IntKind.bits .u64))))))
 (.c Y1 (F_zv v.1) fun r4_ =>
 .g (decide ((List.length v.2 + 1) * 24 ≤ 140737488355328)) <|
 .l (.inl ((IntKind.wrap .u64 (v.1 + (1 : Int))), (List.set (v.2 ++ [[]]) (List.length v.2) r4_))))
 (.l (.inr v.2))
noncomputable def wyi (k : Int) (v : Int × Y2) : Option Y2 := iter (fun v => (wrj k v).ev) v
noncomputable def wrk : LD := ⟨{ acts := [], S := { slots := [0, 3, 4], sh := (.cons (.dat yi) (.cons (.arr 5) (.cons (.dat (.int .u64)) .nil))), obs := [(5, .rows 22 3 yi)] } }, [(0, { acts := [], S := { slots := [3], sh := (.cons (.arr 5) .nil), obs := [(5, .rows 22 3 yi)] } })], (yh [] .nil), Int, Int × Y2, List Y1, fun k v => ((k, ((), (v.1, ()))), (v.2, ())), fun t => t.1.1, fun t => (t.1.2.2.1, t.2.1), wrj, fun _ r => .l (.exit 0 (wav ({ slots := [3], sh := (.cons (.arr 5) .nil), obs := [(5, .rows 22 3 yi)] }) (((), ()), (r, ()))))⟩
noncomputable def wajo (a1_ : Int) : Tr ((List Nat) × Y2) :=
 .c Y2 (wyi a1_ ((1 : Int), ([] : List Y1))) fun r6_ =>
 .c ((List Nat) × Y2) (wawc (fun h7_ => Option.bind (F_zx h7_.1 h7_.2.1) fun y8_ => some y8_) ((List.range (List.length r6_)), r6_)) fun r9_ =>
 .l r9_
noncomputable def wajp (a1_ : Int) : Option ((List Nat) × Y2) := (wajo a1_).ev
noncomputable def wbsq : Sh := (.cons (.dat yi) .nil)
noncomputable def wbsr : List (Nat × OSh) := []
noncomputable def K_zad : RetK := { acts := [.ren 5 0], res := [.tmp 2], sh := (.cons (.arr 0) .nil), obs := [(0, .perm 22 3 yi)], pins := [] }
noncomputable def D_zad : FD := ⟨wbsq, wbsr, [], (List Nat) × Y2, fun x => wajp x.1.1, fun r => ([.arr 0], [(0, .perm false 22 3 yi r.1 r.2)])⟩
noncomputable def wawh : Env := wae [(69, D_zv), (180, D_zas), (180, D_zas), (181, D_zx)]
noncomputable def wawi : Nat → Nat → List Nat := fun r i => match look [(1, [(0, [1000000])]), (6, [(1, [80000017])])] r with
 | some l => (look l i).getD []
 | none => []
noncomputable def wawj : List (Nat × LD) := [(0, wrk)]
noncomputable def wajq : Code := (f134.body).getD .skip
noncomputable def wip (k : (HL [y1] → Option (Bool))) (v : Int × (Int × ((List Nat) × Y2))) : Tr ((Int × (Int × ((List Nat) × Y2))) ⊕ (Int × ((List Nat) × Y2))) :=
 .t (decide (v.2.1 < ((List.length v.2.2.1 : Nat) : Int)))
 (.g (inR v.2.1 (List.length v.2.2.1)) <|
 .g (decide ((Int.toNat v.2.1) < List.length v.2.2.1) && decide ((List.getD v.2.2.1 (Int.toNat v.2.1) 0) < List.length v.2.2.2)) <|
 .c (Bool) (k ((List.getD v.2.2.2 (List.getD v.2.2.1 (Int.toNat v.2.1) 0) ([] : Y1)), ())) fun r6_ =>
 .t (!r6_)
 (.g (inR v.1 (List.length v.2.2.1)) <|
 .g (decide ((Int.toNat v.1) < List.length v.2.2.1)) <|
 .l (.inl ((IntKind.wrap .i64 (v.1 + (1 : Int))), ((IntKind.wrap .i64 (v.2.1 + (1 : Int))), ((List.set v.2.2.1 (Int.toNat v.1) (List.getD v.2.2.1 (Int.toNat v.2.1) 0)), v.2.2.2)))))
 (.l (.inl (v.1, ((IntKind.wrap .i64 (v.2.1 + (1 : Int))), v.2.2)))))
 (.l (.inr (v.1, v.2.2)))
noncomputable def wajr (k : (HL [y1] → Option (Bool))) (v : Int × (Int × ((List Nat) × Y2))) : Option (Int × ((List Nat) × Y2)) := iter (fun v => (wip k v).ev) v
noncomputable def wrl : LD := ⟨{ acts := [], S := { slots := [0, 1, 5, 6], sh := (.cons (.arr 64) (.cons (.clo [y1] .bool) (.cons (.dat yi) (.cons (.dat yi) .nil)))), obs := [(64, .perm 22 3 yi)] } }, [(0, { acts := [], S := { slots := [0, 5], sh := (.cons (.arr 64) (.cons (.dat yi) .nil)), obs := [(64, .perm 22 3 yi)] } })], (yh [] .nil), (HL [y1] → Option (Bool)), Int × (Int × ((List Nat) × Y2)), Int × ((List Nat) × Y2), fun k v => (((), (k, (v.1, (v.2.1, ())))), (v.2.2, ())), fun t => t.1.2.1, fun t => (t.1.2.2.1, (t.1.2.2.2.1, t.2.1)), wip, fun _ r => .l (.exit 0 (wav ({ slots := [0, 5], sh := (.cons (.arr 64) (.cons (.dat yi) .nil)), obs := [(64, .perm 22 3 yi)] }) (((), (r.1, ())), (r.2, ()))))⟩
noncomputable def wawk (a2_ : (HL [y1] → Option (Bool))) (a1_ : (List Nat) × Y2) : Tr ((List Nat) × Y2) :=
 .c (Int) (wahs (waz a1_.1 a1_.2) a2_) fun r1_ =>
 .t (r1_ == (-1 : Int))
 (.l a1_)
 (.c (Int × ((List Nat) × Y2)) (wajr a2_ (r1_, ((IntKind.wrap .i64 (r1_ + (1 : Int))), a1_))) fun r9_ =>
 .g (decide ((0 : Int) ≤ r9_.1) && decide (r9_.1 ≤ ((List.length r9_.2.1 : Nat) : Int))) <|
 .g (decide ((0 : Int) ≤ r9_.1) && decide (r9_.1 ≤ ((List.length (List.take (Int.toNat r9_.1) r9_.2.1 ++ List.replicate (List.length r9_.2.1 - (Int.toNat r9_.1)) (List.length r9_.2.2)) : Nat) : Int))) <|
 .l ((List.take (Int.toNat r9_.1) (List.take (Int.toNat r9_.1) r9_.2.1 ++ List.replicate (List.length r9_.2.1 - (Int.toNat r9_.1)) (List.length r9_.2.2))), r9_.2.2))
noncomputable def wawl (a2_ : (HL [y1] → Option (Bool))) (a1_ : (List Nat) × Y2) : Option ((List Nat) × Y2) := (wawk a2_ a1_).ev
noncomputable def wbss : Sh := (.cons (.arr 64) (.cons (.clo [y1] .bool) .nil))
noncomputable def wbst : List (Nat × OSh) := [(64, .perm 22 3 yi)]
noncomputable def K_zap : RetK := { acts := [.ren 64 0], res := [.tmp 4], sh := (.cons (.arr 0) .nil), obs := [(0, .perm 22 3 yi)], pins := [], gone := [64] }
noncomputable def D_zap : FD := ⟨wbss, wbst, [.arg 0], (List Nat) × Y2, fun x => wawl x.1.2.1 x.2.1, fun r => ([.arr 0], [(0, .perm false 22 3 yi r.1 r.2), (64, .spent)])⟩
noncomputable def wawm : Env := wae [(185, D_zaq)]
noncomputable def wawn : Nat → Nat → List Nat := fun _ _ => []
noncomputable def wawo : List (Nat × LD) := [(0, wrl)]
noncomputable def wajs : Code := (f153.body).getD .skip
noncomputable def T_zh (a1_ : Y1) (a2_ : Int) : Tr (Bool) :=
 .l (((List.length a1_ : Nat) : Int) != a2_)
noncomputable def F_zh (a1_ : Y1) (a2_ : Int) : Option (Bool) := (T_zh a1_ a2_).ev
def A_zh : Sh := (.cons (.dat y1) (.cons (.ptr (.cons (.dat yi) .nil)) .nil))
def I_zh : List (Nat × OSh) := []
noncomputable def K_zh : RetK := { acts := [], res := [.tmp 3], sh := (.cons (.dat .bool) .nil), obs := [], pins := [] }
noncomputable def D_zh : FD := ⟨A_zh, I_zh, [], Bool, fun x => F_zh x.1.1 x.1.2.1.1, fun r => ([.dat .bool r], [])⟩
noncomputable def E_zh : Env := wae []
def Z_zh : Nat → Nat → List Nat := fun _ _ => []
noncomputable def O_zh : List (Nat × LD) := []
noncomputable def C_zh : Code := (f154.body).getD .skip
noncomputable def wiq (k : ((HL [y1] → Option (Int))) × (Int × ((List Nat) × Y2))) (v : (Nat) × Int) : Tr (((Nat) × Int) ⊕ (Nat)) :=
 .t (decide (v.2 < k.2.1))
 (.g (inR v.2 (List.length k.2.2.1)) <|
 .g (decide ((Int.toNat v.2) < List.length k.2.2.1) && decide ((List.getD k.2.2.1 (Int.toNat v.2) 0) < List.length k.2.2.2)) <|
 .c (Int) (k.1 ((List.getD k.2.2.2 (List.getD k.2.2.1 (Int.toNat v.2) 0) ([] : Y1)), ())) fun r6_ =>
 .c (Int) (k.1 ((List.getD k.2.2.2 v.1 ([] : Y1)), ())) fun r7_ =>
 .t (decide (r6_ < r7_))
 (.l (.inl ((List.getD k.2.2.1 (Int.toNat v.2) 0), (IntKind.wrap .i64 (v.2 + (1 : Int))))))
 (.l (.inl (v.1, (IntKind.wrap .i64 (v.2 + (1 : Int)))))))
 (.l (.inr v.1))
noncomputable def wajt (k : ((HL [y1] → Option (Int))) × (Int × ((List Nat) × Y2))) (v : (Nat) × Int) : Option (Nat) := iter (fun v => (wiq k v).ev) v
noncomputable def wrm : LD := ⟨{ acts := [], S := { slots := [0, 1, 5, 11, 12, 13], sh := (.cons (.arr 64) (.cons (.clo [y1] yi) (.cons (.row 64) (.cons (.arr 64) (.cons (.dat yi) (.cons (.dat yi) .nil)))))), obs := [(64, .perm 22 3 yi)] } }, [(0, { acts := [], S := { slots := [0, 5], sh := (.cons (.arr 64) (.cons (.row 64) .nil)), obs := [(64, .perm 22 3 yi)] } })], (yh [] .nil), ((HL [y1] → Option (Int))) × (Int × ((List Nat) × Y2)), (Nat) × (Int), Nat, fun k v => (((), (k.1, (v.1, ((), (k.2.1, (v.2, ())))))), (k.2.2, ())), fun t => (t.1.2.1, (t.1.2.2.2.2.1, t.2.1)), fun t => (t.1.2.2.1, t.1.2.2.2.2.2.1), wiq, fun k r => .l (.exit 0 (wav ({ slots := [0, 5], sh := (.cons (.arr 64) (.cons (.row 64) .nil)), obs := [(64, .perm 22 3 yi)] }) (((), (r, ())), (k.2.2, ()))))⟩
noncomputable def wawp (a2_ : (HL [y1] → Option (Int))) (a1_ : (List Nat) × Y2) : Tr Y1 :=
 .g (inR (0 : Int) (List.length a1_.1)) <|
 .g (decide ((Int.toNat (0 : Int)) < List.length a1_.1) && decide ((List.getD a1_.1 (Int.toNat (0 : Int)) 0) < List.length a1_.2)) <|
 .c (Nat) (wajt (a2_, (((List.length a1_.1 : Nat) : Int), a1_)) ((List.getD a1_.1 (Int.toNat (0 : Int)) 0), (0 : Int))) fun r10_ =>
 .l (List.getD a1_.2 r10_ ([] : Y1))
noncomputable def wawq (a2_ : (HL [y1] → Option (Int))) (a1_ : (List Nat) × Y2) : Option Y1 := (wawp a2_ a1_).ev
noncomputable def wbsv : Sh := (.cons (.arr 64) (.cons (.clo [y1] yi) .nil))
noncomputable def wbsw : List (Nat × OSh) := [(64, .perm 22 3 yi)]
noncomputable def K_zac : RetK := { acts := [.pull 4 800000, .ren 800000 0], res := [.tmp 4], sh := (.cons (.arr 0) .nil), obs := [(0, .arr 3 yi)], pins := [], gone := [64] }
noncomputable def D_zac : FD := ⟨wbsv, wbsw, [.arg 0], Y1, fun x => wawq x.1.2.1 x.2.1, fun r => ([.arr 0], [(0, .arr 3 yi r), (64, .spent)])⟩
noncomputable def wawr : Env := wae []
noncomputable def waws : Nat → Nat → List Nat := fun _ _ => []
noncomputable def wawt : List (Nat × LD) := [(0, wrm)]
noncomputable def waju : Code := (f133.body).getD .skip
noncomputable def wvj (k : Int × (Y1 × (Int × (Y1 × Y2)))) (v : Int × Int) : Tr ((Int × Int) ⊕ (Int)) :=
 .t (decide (v.2 < k.2.2.1))
 (.g (inR v.2 (List.length k.2.1)) <|
 .g (inR k.1 (List.length k.2.2.2.2)) <|
 .g (inR (List.getD k.2.1 (Int.toNat v.2) (0 : Int)) (List.length (List.getD k.2.2.2.2 (Int.toNat k.1) ([] : Y1)))) <|
 .g (inR k.1 (List.length k.2.2.2.2)) <|
 .g (inR v.1 (List.length (List.getD k.2.2.2.2 (Int.toNat k.1) ([] : Y1)))) <|
 .t (decide ((List.getD (List.getD k.2.2.2.2 (Int.toNat k.1) ([] : Y1)) (Int.toNat (List.getD k.2.1 (Int.toNat v.2) (0 : Int))) (0 : Int)) < (List.getD (List.getD k.2.2.2.2 (Int.toNat k.1) ([] : Y1)) (Int.toNat v.1) (0 : Int))))
 (.l (.inl ((List.getD k.2.1 (Int.toNat v.2) (0 : Int)), (IntKind.wrap .i64 (v.2 + (1 : Int))))))
 (.l (.inl (v.1, (IntKind.wrap .i64 (v.2 + (1 : Int)))))))
 (.l (.inr v.1))
noncomputable def wbbc (k : Int × (Y1 × (Int × (Y1 × Y2)))) (v : Int × Int) : Option (Int) := iter (fun v => (wvj k v).ev) v
noncomputable def wyj : LD := ⟨{ acts := [], S := { slots := [1, 3, 7, 13, 14, 15], sh := (.cons (.dat yi) (.cons (.box 3 0) (.cons (.dat yi) (.cons (.dat y1) (.cons (.dat yi) (.cons (.dat yi) .nil)))))), obs := [(3, .cells (.cons (.dat y1) (.cons (.dat y2) .nil)))] } }, [(0, (yh [7] (.cons (.dat yi) .nil)))], (yh [] .nil), Int × (Y1 × (Int × (Y1 × Y2))), Int × (Int), Int, fun k v => ((k.1, ((), (v.1, (k.2.1, (k.2.2.1, (v.2, ())))))), ((k.2.2.2.1, (k.2.2.2.2, ())), ())), fun t => (t.1.1, (t.1.2.2.2.1, (t.1.2.2.2.2.1, (t.2.1.1, t.2.1.2.1)))), fun t => (t.1.2.2.1, t.1.2.2.2.2.2.1), wvj, fun _ r => .l (.exit 0 (wav ((ys [7] (.cons (.dat yi) .nil))) ((r, ()), ())))⟩
noncomputable def T_zj (a1_ : Y1) (a2_ : List Y1) (a3_ : Int) (a4_ : Y1) : Tr (Int) :=
 .g (inR (0 : Int) (List.length a4_)) <|
 .c (Int) (wbbc (a3_, (a4_, (((List.length a4_ : Nat) : Int), (a1_, a2_)))) ((List.getD a4_ (Int.toNat (0 : Int)) (0 : Int)), (0 : Int))) fun r9_ =>
 .l r9_
noncomputable def F_zj (a1_ : Y1) (a2_ : List Y1) (a3_ : Int) (a4_ : Y1) : Option (Int) := (T_zj a1_ a2_ a3_ a4_).ev
def A_zj : Sh := (.cons (.agg (.cons (.dat y1) (.cons (.dat y2) .nil))) (.cons (.dat yi) (.cons (.dat y1) .nil)))
def I_zj : List (Nat × OSh) := []
noncomputable def K_zj : RetK := { acts := [], res := [.tmp 6], sh := (.cons (.dat yi) .nil), obs := [], pins := [] }
noncomputable def D_zj : FD := ⟨A_zj, I_zj, [], Int, fun x => F_zj x.1.1.1 x.1.1.2.1 x.1.2.1 x.1.2.2.1, fun r => ([.dat yi r], [])⟩
noncomputable def E_zj : Env := wae []
def Z_zj : Nat → Nat → List Nat := fun _ _ => []
noncomputable def O_zj : List (Nat × LD) := [(0, wyj)]
noncomputable def C_zj : Code := (f201.body).getD .skip
noncomputable def wvk (k : Y1 × (Int × (Y1 × Y2))) (v : Int × Y1) : Tr ((Int × Y1) ⊕ Y1) :=
 .t (decide (v.1 < k.2.1))
 (.c (Int) (F_zj k.2.2.1 k.2.2.2 v.1 k.1) fun r7_ =>
 .g (decide ((List.length v.2 + List.length ([r7_] : Y1)) * 8 ≤ 140737488355328)) <|
 .l (.inl ((IntKind.wrap .i64 (v.1 + (1 : Int))), (v.2 ++ ([r7_] : Y1)))))
 (.l (.inr v.2))
noncomputable def wbbd (k : Y1 × (Int × (Y1 × Y2))) (v : Int × Y1) : Option Y1 := iter (fun v => (wvk k v).ev) v
noncomputable def wyk : LD := ⟨{ acts := [], S := { slots := [1, 2, 5, 10, 11], sh := (.cons (.dat y1) (.cons (.box 2 0) (.cons (.arr 7) (.cons (.dat yi) (.cons (.dat yi) .nil))))), obs := [(2, .cells (.cons (.dat y1) (.cons (.dat y2) .nil))), (7, .arr 3 yi)] } }, [(0, { acts := [], S := { slots := [5], sh := (.cons (.arr 7) .nil), obs := [(7, .arr 3 yi)] } })], (yh [] .nil), Y1 × (Int × (Y1 × Y2)), Int × Y1, Y1, fun k v => ((k.1, ((), ((), (k.2.1, (v.1, ()))))), ((k.2.2.1, (k.2.2.2, ())), (v.2, ()))), fun t => (t.1.1, (t.1.2.2.2.1, (t.2.1.1, t.2.1.2.1))), fun t => (t.1.2.2.2.2.1, t.2.2.1), wvk, fun _ r => .l (.exit 0 (wav ({ slots := [5], sh := (.cons (.arr 7) .nil), obs := [(7, .arr 3 yi)] }) (((), ()), (r, ()))))⟩
noncomputable def T_zi (a1_ : Y1) (a2_ : List Y1) (a3_ : Y1) : Tr Y1 :=
 .c Y1 (wbbd (a3_, (((List.length a2_ : Nat) : Int), (a1_, a2_))) ((0 : Int), ([] : Y1))) fun r9_ =>
 .l r9_
noncomputable def F_zi (a1_ : Y1) (a2_ : List Y1) (a3_ : Y1) : Option Y1 := (T_zi a1_ a2_ a3_).ev
def A_zi : Sh := (.cons (.agg (.cons (.dat y1) (.cons (.dat y2) .nil))) (.cons (.dat y1) .nil))
def I_zi : List (Nat × OSh) := []
noncomputable def K_zi : RetK := { acts := [.ren 7 0], res := [.tmp 4], sh := (.cons (.arr 0) .nil), obs := [(0, .arr 3 yi)], pins := [] }
noncomputable def D_zi : FD := ⟨A_zi, I_zi, [], Y1, fun x => F_zi x.1.1.1 x.1.1.2.1 x.1.2.1, fun r => ([.arr 0], [(0, .arr 3 yi r)])⟩
noncomputable def E_zi : Env := wae [(201, D_zj)]
def Z_zi : Nat → Nat → List Nat := fun _ _ => []
noncomputable def O_zi : List (Nat × LD) := [(0, wyk)]
noncomputable def C_zi : Code := (f186.body).getD .skip
noncomputable def wvl (k : Int × (Y1 × (Y2 × Y1))) (v : Int × Y1) : Tr ((Int × Y1) ⊕ Y1) :=
 .t (decide (v.1 < k.1))
 (.g (inR v.1 (List.length k.2.2.2)) <|
 .g (decide ((Int.toNat v.1) < List.length k.2.2.2)) <|
 .g (inR v.1 (List.length k.2.2.1)) <|
 .g (inR (List.getD k.2.2.2 (Int.toNat v.1) (0 : Int)) (List.length (List.getD k.2.2.1 (Int.toNat v.1) ([] : Y1)))) <|
 .g (decide ((List.length v.2 + List.length ([(List.getD (List.getD k.2.2.1 (Int.toNat v.1) ([] : Y1)) (Int.toNat (List.getD k.2.2.2 (Int.toNat v.1) (0 : Int))) (0 : Int))] : Y1)) * 8 ≤ 140737488355328)) <|
 .l (.inl ((IntKind.wrap .i64 (v.1 + (1 : Int))), (v.2 ++ ([(List.getD (List.getD k.2.2.1 (Int.toNat v.1) ([] : Y1)) (Int.toNat (List.getD k.2.2.2 (Int.toNat v.1) (0 : Int))) (0 : Int))] : Y1)))))
 (.l (.inr v.2))
noncomputable def wbbe (k : Int × (Y1 × (Y2 × Y1))) (v : Int × Y1) : Option Y1 := iter (fun v => (wvl k v).ev) v
noncomputable def wyl : LD := ⟨{ acts := [], S := { slots := [2, 5, 11, 12, 13], sh := (.cons (.box 2 0) (.cons (.arr 8) (.cons (.arr 704) (.cons (.dat yi) (.cons (.dat yi) .nil))))), obs := [(2, .cells (.cons (.dat y1) (.cons (.dat y2) .nil))), (8, .arr 3 yi), (704, .arr 3 yi)] } }, [(0, { acts := [], S := { slots := [5], sh := (.cons (.arr 8) .nil), obs := [(8, .arr 3 yi)] } })], (yh [] .nil), Int × (Y1 × (Y2 × Y1)), Int × Y1, Y1, fun k v => (((), ((), ((), (k.1, (v.1, ()))))), ((k.2.1, (k.2.2.1, ())), (v.2, (k.2.2.2, ())))), fun t => (t.1.2.2.2.1, (t.2.1.1, (t.2.1.2.1, t.2.2.2.1))), fun t => (t.1.2.2.2.2.1, t.2.2.1), wvl, fun _ r => .l (.exit 0 (wav ({ slots := [5], sh := (.cons (.arr 8) .nil), obs := [(8, .arr 3 yi)] }) (((), ()), (r, ()))))⟩
noncomputable def T_zf (a1_ : Y1) (a2_ : List Y1) (a3_ : Y1) : Tr Y1 :=
 .c Y1 (F_zi a1_ a2_ a3_) fun r1_ =>
 .c Y1 (wbbe (((List.length r1_ : Nat) : Int), (a1_, (a2_, r1_))) ((0 : Int), ([] : Y1))) fun r9_ =>
 .l r9_
noncomputable def F_zf (a1_ : Y1) (a2_ : List Y1) (a3_ : Y1) : Option Y1 := (T_zf a1_ a2_ a3_).ev
def A_zf : Sh := (.cons (.agg (.cons (.dat y1) (.cons (.dat y2) .nil))) (.cons (.dat y1) .nil))
def I_zf : List (Nat × OSh) := []
noncomputable def K_zf : RetK := { acts := [.ren 8 0], res := [.tmp 4], sh := (.cons (.arr 0) .nil), obs := [(0, .arr 3 yi)], pins := [] }
noncomputable def D_zf : FD := ⟨A_zf, I_zf, [], Y1, fun x => F_zf x.1.1.1 x.1.1.2.1 x.1.2.1, fun r => ([.arr 0], [(0, .arr 3 yi r)])⟩
noncomputable def E_zf : Env := wae [(186, D_zi)]
def Z_zf : Nat → Nat → List Nat := fun _ _ => []
noncomputable def O_zf : List (Nat × LD) := [(0, wyl)]
noncomputable def C_zf : Code := (f145.body).getD .skip
noncomputable def wmc (k : Y1 × Int) (v : Int × Int) : Tr ((Int × Int) ⊕ (Int)) :=
 .t (decide (v.2 < k.2))
 (.g (inR v.2 (List.length k.1)) <|
 .l (.inl ((IntKind.wrap .i64 (v.1 + (List.getD k.1 (Int.toNat v.2) (0 : Int)))), (IntKind.wrap .i64 (v.2 + (1 : Int))))))
 (.l (.inr v.1))
noncomputable def wajv (k : Y1 × Int) (v : Int × Int) : Option (Int) := iter (fun v => (wmc k v).ev) v
noncomputable def wrn : LD := ⟨(yh [3, 6, 7, 8] (.cons (.dat yi) (.cons (.dat y1) (.cons (.dat yi) (.cons (.dat yi) .nil))))), [(0, (yh [3] (.cons (.dat yi) .nil)))], (yh [] .nil), Y1 × (Int), Int × (Int), Int, fun k v => ((v.1, (k.1, (k.2, (v.2, ())))), ()), fun t => (t.1.2.1, t.1.2.2.1), fun t => (t.1.1, t.1.2.2.2.1), wmc, fun _ r => .l (.exit 0 (wav ((ys [3] (.cons (.dat yi) .nil))) ((r, ()), ())))⟩
noncomputable def wawu (a1_ : Y1) : Tr (Int) :=
 .c (Int) (wajv (a1_, ((List.length a1_ : Nat) : Int)) ((0 : Int), (0 : Int))) fun r6_ =>
 .l r6_
noncomputable def wawv (a1_ : Y1) : Option (Int) := (wawu a1_).ev
noncomputable def wbta : Sh := (.cons (.dat y1) .nil)
noncomputable def wbtb : List (Nat × OSh) := []
noncomputable def K_zae : RetK := { acts := [], res := [.tmp 2], sh := (.cons (.dat yi) .nil), obs := [], pins := [] }
noncomputable def D_zae : FD := ⟨wbta, wbtb, [], Int, fun x => wawv x.1.1, fun r => ([.dat yi r], [])⟩
noncomputable def waww : Env := wae []
noncomputable def wawx : Nat → Nat → List Nat := fun _ _ => []
noncomputable def wawy : List (Nat × LD) := [(0, wrn)]
noncomputable def wajw : Code := (f144.body).getD .skip
noncomputable def T_zk (a1_ : Y1) (a2_ : List Y1) (a3_ : Y1) : Tr (Int) :=
 .c Y1 (F_zf a1_ a2_ a3_) fun r1_ =>
 .c (Int) (wawv r1_) fun r2_ =>
 .l r2_
noncomputable def F_zk (a1_ : Y1) (a2_ : List Y1) (a3_ : Y1) : Option (Int) := (T_zk a1_ a2_ a3_).ev
def A_zk : Sh := (.cons (.agg (.cons (.dat y1) (.cons (.dat y2) .nil))) (.cons (.dat y1) .nil))
def I_zk : List (Nat × OSh) := []
noncomputable def K_zk : RetK := { acts := [], res := [.tmp 4], sh := (.cons (.dat yi) .nil), obs := [], pins := [] }
noncomputable def D_zk : FD := ⟨A_zk, I_zk, [], Int, fun x => F_zk x.1.1.1 x.1.1.2.1 x.1.2.1, fun r => ([.dat yi r], [])⟩
noncomputable def E_zk : Env := wae [(145, D_zf), (144, D_zae)]
def Z_zk : Nat → Nat → List Nat := fun _ _ => []
noncomputable def O_zk : List (Nat × LD) := []
noncomputable def C_zk : Code := (f91.body).getD .skip
noncomputable def T_zg (a1_ : Y1) (a2_ : List Y1) (a3_ : Int) : Tr Y1 :=
 .c ((List Nat) × Y2) (wajp ((List.length a1_ : Nat) : Int)) fun r1_ =>
 .c ((List Nat) × Y2) (wawl (fun h2_ => Option.bind (F_zh h2_.1 a3_) fun y3_ => some y3_) r1_) fun r4_ =>
 .c Y1 (wawq (fun h5_ => Option.bind (F_zk a1_ a2_ h5_.1) fun y6_ => some y6_) r4_) fun r7_ =>
 .l r7_
noncomputable def F_zg (a1_ : Y1) (a2_ : List Y1) (a3_ : Int) : Option Y1 := (T_zg a1_ a2_ a3_).ev
def A_zg : Sh := (.cons (.agg (.cons (.dat y1) (.cons (.dat y2) .nil))) (.cons (.dat yi) .nil))
def I_zg : List (Nat × OSh) := []
noncomputable def K_zg : RetK := { acts := [.ren 960 0], res := [.tmp 4], sh := (.cons (.arr 0) .nil), obs := [(0, .arr 3 yi)], pins := [] }
noncomputable def D_zg : FD := ⟨A_zg, I_zg, [], Y1, fun x => F_zg x.1.1.1 x.1.1.2.1 x.1.2.1, fun r => ([.arr 0], [(0, .arr 3 yi r)])⟩
noncomputable def E_zg : Env := wae [(134, D_zad), (153, D_zap), (133, D_zac), (133, D_zac), (91, D_zk), (153, D_zap), (154, D_zh)]
def Z_zg : Nat → Nat → List Nat := fun _ _ => []
noncomputable def O_zg : List (Nat × LD) := []
noncomputable def C_zg : Code := (f103.body).getD .skip
noncomputable def wvm (k : Int × (Y1 × Y2)) (v : Int × Y1) : Tr ((Int × Y1) ⊕ Y1) :=
 .t (decide (v.1 < k.1))
 (.c Y1 (F_zg k.2.1 k.2.2 (IntKind.wrap .i64 (v.1 + (1 : Int)))) fun r6_ =>
 .c (Int) (F_zk k.2.1 k.2.2 r6_) fun r7_ =>
 .g (decide ((List.length v.2 + List.length ([r7_] : Y1)) * 8 ≤ 140737488355328)) <|
 .l (.inl ((IntKind.wrap .i64 (v.1 + (1 : Int))), (v.2 ++ ([r7_] : Y1)))))
 (.l (.inr v.2))
noncomputable def wbbf (k : Int × (Y1 × Y2)) (v : Int × Y1) : Option Y1 := iter (fun v => (wvm k v).ev) v
noncomputable def wym : LD := ⟨{ acts := [], S := { slots := [1, 3, 8, 9], sh := (.cons (.box 1 0) (.cons (.arr 5) (.cons (.dat yi) (.cons (.dat yi) .nil)))), obs := [(1, .cells (.cons (.dat y1) (.cons (.dat y2) .nil))), (5, .arr 3 yi)] } }, [(0, { acts := [], S := { slots := [3], sh := (.cons (.arr 5) .nil), obs := [(5, .arr 3 yi)] } })], (yh [] .nil), Int × (Y1 × Y2), Int × Y1, Y1, fun k v => (((), ((), (k.1, (v.1, ())))), ((k.2.1, (k.2.2, ())), (v.2, ()))), fun t => (t.1.2.2.1, (t.2.1.1, t.2.1.2.1)), fun t => (t.1.2.2.2.1, t.2.2.1), wvm, fun _ r => .l (.exit 0 (wav ({ slots := [3], sh := (.cons (.arr 5) .nil), obs := [(5, .arr 3 yi)] }) (((), ()), (r, ()))))⟩
noncomputable def T_zl (a1_ : Y1) (a2_ : List Y1) : Tr Y1 :=
 .c Y1 (wbbf (((List.length a1_ : Nat) : Int), (a1_, a2_)) ((0 : Int), ([] : Y1))) fun r9_ =>
 .l r9_
noncomputable def F_zl (a1_ : Y1) (a2_ : List Y1) : Option Y1 := (T_zl a1_ a2_).ev
def A_zl : Sh := (.cons (.agg (.cons (.dat y1) (.cons (.dat y2) .nil))) .nil)
def I_zl : List (Nat × OSh) := []
noncomputable def K_zl : RetK := { acts := [.ren 5 0], res := [.tmp 2], sh := (.cons (.arr 0) .nil), obs := [(0, .arr 3 yi)], pins := [] }
noncomputable def D_zl : FD := ⟨A_zl, I_zl, [], Y1, fun x => F_zl x.1.1.1 x.1.1.2.1, fun r => ([.arr 0], [(0, .arr 3 yi r)])⟩
noncomputable def E_zl : Env := wae [(103, D_zg), (91, D_zk)]
def Z_zl : Nat → Nat → List Nat := fun _ _ => []
noncomputable def O_zl : List (Nat × LD) := [(0, wym)]
noncomputable def C_zl : Code := (f90.body).getD .skip
noncomputable def T_zq (a1_ : Int) (a2_ : Int) : Tr (Int × Int) :=
 .g (inR (1 : Int) 2) <|
 .t (decide ((0 : Int) < a2_))
 (.l (a1_, a2_))
 (.g (inR (0 : Int) 2) <|
 .t (a1_ == (0 : Int))
 (.l ((1 : Int), (1 : Int)))
 (.l ((1 : Int), (0 : Int))))
noncomputable def F_zq (a1_ : Int) (a2_ : Int) : Option (Int × Int) := (T_zq a1_ a2_).ev
def A_zq : Sh := (.cons (.agg (.cons (.dat yi) (.cons (.dat yi) .nil))) .nil)
def I_zq : List (Nat × OSh) := []
noncomputable def K_zq : RetK := { acts := [], res := [.cell 2 58], sh := (.cons (.agg (.cons (.dat yi) (.cons (.dat yi) .nil))) .nil), obs := [], pins := [] }
noncomputable def D_zq : FD := ⟨A_zq, I_zq, [], Int × (Int), fun x => F_zq x.1.1.1 x.1.1.2.1, fun r => ([.agg [.dat yi r.1, .dat yi r.2]], [])⟩
noncomputable def E_zq : Env := wae []
def Z_zq : Nat → Nat → List Nat := fun _ _ => []
noncomputable def O_zq : List (Nat × LD) := []
noncomputable def C_zq : Code := (f89.body).getD .skip
noncomputable def wvn (k : Y1 × (Y1 × (Y2 × (Int × (Int × Y1))))) (v : Int × (Int × (Int × Int))) : Tr ((Int × (Int × (Int × Int))) ⊕ (Int × (Int × Int))) :=
 .t (decide (v.2.1 ≤ ((List.length k.1 : Nat) : Int)))
 (.g (decide ((0 : Int) ≤ v.2.1) && decide (v.2.1 ≤ ((List.length k.1 : Nat) : Int))) <|
 .c (List Int) (wava (List.drop 0 (List.take (Int.toNat v.2.1) k.1))) fun r14_ =>
 .c Y1 (wacq r14_) fun r15_ =>
 .c (Int) (F_zk k.2.1 k.2.2.1 r15_) fun r16_ =>
 .g (inR (IntKind.wrap .i64 (v.2.1 - (1 : Int))) (List.length k.2.2.2.2.2)) <|
 .g (decide ((Int.toNat (IntKind.wrap .i64 (v.2.1 - (1 : Int)))) < List.length k.2.2.2.2.2)) <|
 .c (Int × Int) (F_zq r16_ (List.getD k.2.2.2.2.2 (Int.toNat (IntKind.wrap .i64 (v.2.1 - (1 : Int)))) (0 : Int))) fun r17_ =>
 .c (Int × Int) (F_zq v.2.2.1 v.2.2.2) fun r18_ =>
 .t (v.1 == (0 : Int))
 (.l (.inl (v.2.1, ((IntKind.wrap .i64 (v.2.1 + (1 : Int))), (r16_, (List.getD k.2.2.2.2.2 (Int.toNat (IntKind.wrap .i64 (v.2.1 - (1 : Int)))) (0 : Int)))))))
 (.g (inR (0 : Int) 2) <|
 .g (inR (1 : Int) 2) <|
 .g (inR (0 : Int) 2) <|
 .g (inR (1 : Int) 2) <|
 .t (decide ((IntKind.wrap .i64 (r18_.1 * r17_.2)) < (IntKind.wrap .i64 (r17_.1 * r18_.2))))
 (.l (.inl (v.2.1, ((IntKind.wrap .i64 (v.2.1 + (1 : Int))), (r16_, (List.getD k.2.2.2.2.2 (Int.toNat (IntKind.wrap .i64 (v.2.1 - (1 : Int)))) (0 : Int)))))))
 (.l (.inl (v.1, ((IntKind.wrap .i64 (v.2.1 + (1 : Int))), (v.2.2.1, v.2.2.2)))))))
 (.l (.inr (v.1, (v.2.2.1, v.2.2.2))))
noncomputable def wbbg (k : Y1 × (Y1 × (Y2 × (Int × (Int × Y1))))) (v : Int × (Int × (Int × Int))) : Option (Int × (Int × Int)) := iter (fun v => (wvn k v).ev) v
noncomputable def wyn : LD := ⟨{ acts := [], S := { slots := [1, 2, 5, 7, 8, 9, 10, 11], sh := (.cons (.dat y1) (.cons (.box 2 0) (.cons (.box 5 0) (.cons (.fn 89 .nil) (.cons (.arr 1792) (.cons (.dat yi) (.cons (.box 10 0) (.cons (.dat yi) .nil)))))))), obs := [(2, .cells (.cons (.dat y1) (.cons (.dat y2) .nil))), (5, .cells (.cons (.dat yi) (.cons (.dat yi) .nil))), (1792, .arr 3 yi), (10, .cells (.cons (.dat yi) (.cons (.dat yi) .nil)))] } }, [(0, { acts := [], S := { slots := [5, 9, 10], sh := (.cons (.box 5 0) (.cons (.dat yi) (.cons (.box 10 0) .nil))), obs := [(5, .cells (.cons (.dat yi) (.cons (.dat yi) .nil))), (10, .cells (.cons (.dat yi) (.cons (.dat yi) .nil)))] } })], (yh [] .nil), Y1 × (Y1 × (Y2 × (Int × (Int × Y1)))), Int × (Int × (Int × Int)), Int × (Int × Int), fun k v => ((k.1, ((), ((), ((), ((), (v.1, ((), (v.2.1, ())))))))), ((k.2.1, (k.2.2.1, ())), ((k.2.2.2.1, (k.2.2.2.2.1, ())), (k.2.2.2.2.2, ((v.2.2.1, (v.2.2.2, ())), ()))))), fun t => (t.1.1, (t.2.1.1, (t.2.1.2.1, (t.2.2.1.1, (t.2.2.1.2.1, t.2.2.2.1))))), fun t => (t.1.2.2.2.2.2.1, (t.1.2.2.2.2.2.2.2.1, (t.2.2.2.2.1.1, t.2.2.2.2.1.2.1))), wvn, fun k r => .l (.exit 0 (wav ({ slots := [5, 9, 10], sh := (.cons (.box 5 0) (.cons (.dat yi) (.cons (.box 10 0) .nil))), obs := [(5, .cells (.cons (.dat yi) (.cons (.dat yi) .nil))), (10, .cells (.cons (.dat yi) (.cons (.dat yi) .nil)))] }) (((), (r.1, ((), ()))), ((k.2.2.2.1, (k.2.2.2.2.1, ())), ((r.2.1, (r.2.2, ())), ())))))⟩
noncomputable def T_zp (a1_ : Y1) (a2_ : List Y1) (a3_ : Y1) : Tr (Int × (Int × (Int × (Bool)))) :=
 .c (Bool) (F_zm a1_ a2_) fun r1_ =>
 .t (!r1_)
 (.l ((0 : Int), ((0 : Int), ((0 : Int), false))))
 (.c (Bool) (wavt a3_ ((List.length a1_ : Nat) : Int)) fun r2_ =>
 .t (!r2_)
 (.l ((0 : Int), ((0 : Int), ((0 : Int), false))))
 (.c Y1 (F_zl a1_ a2_) fun r3_ =>
 .c (Int × (Int × Int)) (wbbg (a3_, (a1_, (a2_, ((0 : Int), ((0 : Int), r3_))))) ((0 : Int), ((1 : Int), ((0 : Int), (0 : Int))))) fun r24_ =>
 .l (r24_.1, (r24_.2.1, (r24_.2.2, true)))))
noncomputable def F_zp (a1_ : Y1) (a2_ : List Y1) (a3_ : Y1) : Option (Int × (Int × (Int × (Bool)))) := (T_zp a1_ a2_ a3_).ev
def A_zp : Sh := (.cons (.agg (.cons (.dat y1) (.cons (.dat y2) .nil))) (.cons (.dat y1) .nil))
def I_zp : List (Nat × OSh) := []
noncomputable def K_zp : RetK := { acts := [], res := [.tmp 4, .cell 5 58, .tmp 6], sh := (.cons (.dat yi) (.cons (.agg (.cons (.dat yi) (.cons (.dat yi) .nil))) (.cons (.dat .bool) .nil))), obs := [], pins := [] }
noncomputable def D_zp : FD := ⟨A_zp, I_zp, [], Int × (Int × (Int × (Bool))), fun x => F_zp x.1.1.1 x.1.1.2.1 x.1.2.1, fun r => ([.dat yi r.1, .agg [.dat yi r.2.1, .dat yi r.2.2.1], .dat .bool r.2.2.2], [])⟩
noncomputable def E_zp : Env := wae [(87, D_zm), (88, D_zaa), (90, D_zl), (93, wbgf), (92, D_zau), (91, D_zk), (89, D_zq)]
def Z_zp : Nat → Nat → List Nat := fun _ _ => []
noncomputable def O_zp : List (Nat × LD) := [(0, wyn)]
noncomputable def C_zp : Code := (f27.body).getD .skip
noncomputable def wmd (k : Y1 × (Y1 × Y2)) (v : Int) : Tr ((Int) ⊕ ((Unit) ⊕ (Unit))) :=
 .t (decide (v < ((List.length k.2.1 : Nat) : Int)))
 (.c (Bool) (wahc k.1 v) fun r5_ =>
 .t (!r5_)
 (.l (.inr (.inr ())))
 (.l (.inl (IntKind.wrap .i64 (v + (1 : Int))))))
 (.l (.inr (.inl ())))
noncomputable def wajx (k : Y1 × (Y1 × Y2)) (v : Int) : Option ((Unit) ⊕ (Unit)) := iter (fun v => (wmd k v).ev) v
noncomputable def wro : LD := ⟨{ acts := [], S := { slots := [1, 2, 5], sh := (.cons (.dat y1) (.cons (.box 2 0) (.cons (.dat yi) .nil))), obs := [(2, .cells (.cons (.dat y1) (.cons (.dat y2) .nil)))] } }, [(0, { acts := [], S := { slots := [1, 2], sh := (.cons (.dat y1) (.cons (.box 2 0) .nil)), obs := [(2, .cells (.cons (.dat y1) (.cons (.dat y2) .nil)))] } })], (yh [4] (.cons (.dat .bool) .nil)), Y1 × (Y1 × Y2), Int, (Unit) ⊕ (Unit), fun k v => ((k.1, ((), (v, ()))), ((k.2.1, (k.2.2, ())), ())), fun t => (t.1.1, (t.2.1.1, t.2.1.2.1)), fun t => t.1.2.2.1, wmd, fun k r => .s (Unit) (Unit) r (fun _ => .l (.exit 0 (wav ({ slots := [1, 2], sh := (.cons (.dat y1) (.cons (.box 2 0) .nil)), obs := [(2, .cells (.cons (.dat y1) (.cons (.dat y2) .nil)))] }) ((k.1, ((), ())), ((k.2.1, (k.2.2, ())), ()))))) (fun _ => .l (.ret (wav ((ys [4] (.cons (.dat .bool) .nil))) ((false, ()), ()))))⟩
noncomputable def wawz (a1_ : Y1) (a2_ : List Y1) (a3_ : Y1) : Tr (Bool) :=
 .c ((Unit) ⊕ (Unit)) (wajx (a3_, (a1_, a2_)) (0 : Int)) fun r10_ =>
 .s (Unit) (Unit) r10_
 (fun _ => .l (((List.length a3_ : Nat) : Int) == ((List.length a1_ : Nat) : Int)))
 (fun _ => .l false)
noncomputable def waxa (a1_ : Y1) (a2_ : List Y1) (a3_ : Y1) : Option (Bool) := (wawz a1_ a2_ a3_).ev
noncomputable def wbtf : Sh := (.cons (.agg (.cons (.dat y1) (.cons (.dat y2) .nil))) (.cons (.dat y1) .nil))
noncomputable def wbtg : List (Nat × OSh) := []
noncomputable def K_zbr : RetK := { acts := [], res := [.tmp 4], sh := (.cons (.dat .bool) .nil), obs := [], pins := [] }
noncomputable def D_zbr : FD := ⟨wbtf, wbtg, [], Bool, fun x => waxa x.1.1.1 x.1.1.2.1 x.1.2.1, fun r => ([.dat .bool r], [])⟩
noncomputable def waxb : Env := wae [(116, D_zcc)]
noncomputable def waxc : Nat → Nat → List Nat := fun _ _ => []
noncomputable def waxd : List (Nat × LD) := [(0, wro)]
noncomputable def wajy : Code := (f95.body).getD .skip
noncomputable def wrp (k : Int × Int) (v : Int × Y1) : Tr ((Int × Y1) ⊕ Y1) :=
 .t (decide (v.1 < k.1))
 (.g (decide ((0 : Int) ≤ v.1)) <|
 .t ((IntKind.wrap .i64 (BitVec.toNat ((BitVec.ofInt (IntKind.bits .i64) (Int.fdiv k.2 (2 ^ (min (Int.toNat v.1) (IntKind.bits .i64))))) &&& (BitVec.ofInt (IntKind.bits .i64) (1 : Int))))) == (1 : Int))
 (.g (decide ((List.length v.2 + List.length ([v.1] : Y1)) * 8 ≤ 140737488355328)) <|
 .l (.inl ((IntKind.wrap .i64 (v.1 + (1 : Int))), (v.2 ++ ([v.1] : Y1)))))
 (.l (.inl ((IntKind.wrap .i64 (v.1 + (1 : Int))), v.2))))
 (.l (.inr v.2))
noncomputable def wyo (k : Int × Int) (v : Int × Y1) : Option Y1 := iter (fun v => (wrp k v).ev) v
noncomputable def wrq : LD := ⟨{ acts := [], S := { slots := [0, 1, 5, 6], sh := (.cons (.dat yi) (.cons (.dat yi) (.cons (.arr 7) (.cons (.dat yi) .nil)))), obs := [(7, .arr 3 yi)] } }, [(0, { acts := [], S := { slots := [5], sh := (.cons (.arr 7) .nil), obs := [(7, .arr 3 yi)] } })], (yh [] .nil), Int × (Int), Int × Y1, Y1, fun k v => ((k.1, (k.2, ((), (v.1, ())))), (v.2, ())), fun t => (t.1.1, t.1.2.1), fun t => (t.1.2.2.2.1, t.2.1), wrp, fun _ r => .l (.exit 0 (wav ({ slots := [5], sh := (.cons (.arr 7) .nil), obs := [(7, .arr 3 yi)] }) (((), ()), (r, ()))))⟩
noncomputable def wajz (a1_ : Int) (a2_ : Int) : Tr Y1 :=
 .c Y1 (wyo (a1_, a2_) ((0 : Int), ([] : Y1))) fun r6_ =>
 .l r6_
noncomputable def waxe (a1_ : Int) (a2_ : Int) : Option Y1 := (wajz a1_ a2_).ev
noncomputable def wbth : Sh := (.cons (.dat yi) (.cons (.dat yi) .nil))
noncomputable def wbti : List (Nat × OSh) := []
noncomputable def K_zcj : RetK := { acts := [.ren 7 0], res := [.tmp 4], sh := (.cons (.arr 0) .nil), obs := [(0, .arr 3 yi)], pins := [] }
noncomputable def D_zcj : FD := ⟨wbth, wbti, [], Y1, fun x => waxe x.1.1 x.1.2.1, fun r => ([.arr 0], [(0, .arr 3 yi r)])⟩
noncomputable def waxf : Env := wae []
noncomputable def waxg : Nat → Nat → List Nat := fun _ _ => []
noncomputable def waxh : List (Nat × LD) := [(0, wrq)]
noncomputable def waka : Code := (f155.body).getD .skip
noncomputable def wrr (k : Y1 × Y1) (v : Int) : Tr ((Int) ⊕ ((Unit) ⊕ (Bool))) :=
 .t (decide (v < ((List.length k.1 : Nat) : Int)))
 (.g (inR v (List.length k.1)) <|
 .g (inR v (List.length k.2)) <|
 .t ((List.getD k.1 (Int.toNat v) (0 : Int)) != (List.getD k.2 (Int.toNat v) (0 : Int)))
 (.g (inR v (List.length k.1)) <|
 .g (inR v (List.length k.2)) <|
 .l (.inr (.inr (decide ((List.getD k.1 (Int.toNat v) (0 : Int)) < (List.getD k.2 (Int.toNat v) (0 : Int)))))))
 (.l (.inl (IntKind.wrap .i64 (v + (1 : Int))))))
 (.l (.inr (.inl ())))
noncomputable def wyp (k : Y1 × Y1) (v : Int) : Option ((Unit) ⊕ (Bool)) := iter (fun v => (wrr k v).ev) v
noncomputable def wrs : LD := ⟨(yh [0, 1, 5] (.cons (.dat y1) (.cons (.dat y1) (.cons (.dat yi) .nil)))), [(0, (yh [] .nil))], (yh [4] (.cons (.dat .bool) .nil)), Y1 × Y1, Int, (Unit) ⊕ (Bool), fun k v => ((k.1, (k.2, (v, ()))), ()), fun t => (t.1.1, t.1.2.1), fun t => t.1.2.2.1, wrr, fun _ r => .s (Unit) (Bool) r (fun _ => .l (.exit 0 (wav ((ys [] .nil)) ((), ())))) (fun b => .l (.ret (wav ((ys [4] (.cons (.dat .bool) .nil))) ((b, ()), ()))))⟩
noncomputable def wakb (a1_ : Y1) (a2_ : Y1) : Tr (Bool) :=
 .t (((List.length a1_ : Nat) : Int) != ((List.length a2_ : Nat) : Int))
 (.l (decide (((List.length a1_ : Nat) : Int) < ((List.length a2_ : Nat) : Int))))
 (.c ((Unit) ⊕ (Bool)) (wyp (a1_, a2_) (0 : Int)) fun r5_ =>
 .s (Unit) (Bool) r5_
 (fun _ => .l false)
 (fun r7_ => .l r7_))
noncomputable def waxi (a1_ : Y1) (a2_ : Y1) : Option (Bool) := (wakb a1_ a2_).ev
noncomputable def wbtj : Sh := (.cons (.dat y1) (.cons (.dat y1) .nil))
noncomputable def wbtk : List (Nat × OSh) := []
noncomputable def K_zci : RetK := { acts := [], res := [.tmp 4], sh := (.cons (.dat .bool) .nil), obs := [], pins := [] }
noncomputable def D_zci : FD := ⟨wbtj, wbtk, [], Bool, fun x => waxi x.1.1 x.1.2.1, fun r => ([.dat .bool r], [])⟩
noncomputable def waxj : Env := wae []
noncomputable def waxk : Nat → Nat → List Nat := fun _ _ => []
noncomputable def waxl : List (Nat × LD) := [(0, wrs)]
noncomputable def wakc : Code := (f191.body).getD .skip
noncomputable def wrt (k : Int × (Y2 × (Int × Y1))) (v : Int) : Tr ((Int) ⊕ (Int)) :=
 .t (decide ((0 : Int) < v))
 (.g (inR (IntKind.wrap .i64 (v - (1 : Int))) (List.length k.2.1)) <|
 .c (Bool) (waxi k.2.2.2 (List.getD k.2.1 (Int.toNat (IntKind.wrap .i64 (v - (1 : Int)))) ([] : Y1))) fun r26_ =>
 .t r26_
 (.l (.inl (IntKind.wrap .i64 (v - (1 : Int)))))
 (.l (.inr v)))
 (.l (.inr v))
noncomputable def wyq (k : Int × (Y2 × (Int × Y1))) (v : Int) : Option (Int) := iter (fun v => (wrt k v).ev) v
noncomputable def wru : LD := ⟨{ acts := [], S := { slots := [0, 3, 4, 5, 6], sh := (.cons (.dat yi) (.cons (.dat y2) (.cons (.dat yi) (.cons (.arr 1024) (.cons (.dat yi) .nil))))), obs := [(1024, .arr 3 yi)] } }, [(2, { acts := [], S := { slots := [0, 3, 4, 5, 6], sh := (.cons (.dat yi) (.cons (.dat y2) (.cons (.dat yi) (.cons (.arr 1024) (.cons (.dat yi) .nil))))), obs := [(1024, .arr 3 yi)] } })], (yh [] .nil), Int × (Y2 × (Int × Y1)), Int, Int, fun k v => ((k.1, (k.2.1, (k.2.2.1, ((), (v, ()))))), (k.2.2.2, ())), fun t => (t.1.1, (t.1.2.1, (t.1.2.2.1, t.2.1))), fun t => t.1.2.2.2.2.1, wrt, fun k r => .l (.exit 2 (wav ({ slots := [0, 3, 4, 5, 6], sh := (.cons (.dat yi) (.cons (.dat y2) (.cons (.dat yi) (.cons (.arr 1024) (.cons (.dat yi) .nil))))), obs := [(1024, .arr 3 yi)] }) ((k.1, (k.2.1, (k.2.2.1, ((), (r, ()))))), (k.2.2.2, ()))))⟩
noncomputable def wrv (k : Int) (v : Y2 × Int) : Tr ((Y2 × Int) ⊕ Y2) :=
 .g (decide ((0 : Int) ≤ k)) <|
 .t (decide (v.2 < (IntKind.wrap .i64 ((1 : Int) * 2 ^ (min (Int.toNat k) (IntKind.bits .i64))))))
 (.c Y1 (waxe k v.2) fun r20_ =>
 .c (Int) (wyq (k, (v.1, (v.2, r20_))) ((List.length v.1 : Nat) : Int)) fun r32_ =>
 .g (decide ((0 : Int) ≤ r32_) && decide (r32_ ≤ ((List.length v.1 : Nat) : Int))) <|
 .g (decide ((List.length ([] : List Y1) + List.length (List.drop 0 (List.take (Int.toNat r32_) v.1))) * 24 ≤ 140737488355328)) <|
 .g (decide ((List.length (([] : List Y1) ++ (List.drop 0 (List.take (Int.toNat r32_) v.1))) + List.length ([r20_] : List Y1)) * 24 ≤ 140737488355328)) <|
 .g (decide ((0 : Int) ≤ r32_) && decide (r32_ ≤ ((List.length v.1 : Nat) : Int))) <|
 .g (decide ((List.length ((([] : List Y1) ++ (List.drop 0 (List.take (Int.toNat r32_) v.1))) ++ ([r20_] : List Y1)) + List.length (List.drop (Int.toNat r32_) (List.take (List.length v.1) v.1))) * 24 ≤ 140737488355328)) <|
 .l (.inl ((((([] : List Y1) ++ (List.drop 0 (List.take (Int.toNat r32_) v.1))) ++ ([r20_] : List Y1)) ++ (List.drop (Int.toNat r32_) (List.take (List.length v.1) v.1))), (IntKind.wrap .i64 (v.2 + (1 : Int))))))
 (.l (.inr v.1))
noncomputable def wyr (k : Int) (v : Y2 × Int) : Option Y2 := iter (fun v => (wrv k v).ev) v
noncomputable def wrw : LD := ⟨{ acts := [.fz 7, .fz 32], S := (ys [0, 3, 4] (.cons (.dat yi) (.cons (.dat y2) (.cons (.dat yi) .nil)))) }, [(0, (yh [3] (.cons (.dat y2) .nil)))], (yh [] .nil), Int, Y2 × (Int), List Y1, fun k v => ((k, (v.1, (v.2, ()))), ()), fun t => t.1.1, fun t => (t.1.2.1, t.1.2.2.1), wrv, fun _ r => .l (.exit 0 (wav ((ys [3] (.cons (.dat y2) .nil))) ((r, ()), ())))⟩
noncomputable def wakd (a1_ : Int) : Tr Y2 :=
 .c Y2 (wyr a1_ (([] : List Y1), (1 : Int))) fun r34_ =>
 .l r34_
noncomputable def wakf (a1_ : Int) : Option Y2 := (wakd a1_).ev
noncomputable def wbtl : Sh := (.cons (.dat yi) .nil)
noncomputable def wbtm : List (Nat × OSh) := []
noncomputable def K_zcr : RetK := { acts := [], res := [.tmp 2], sh := (.cons (.dat y2) .nil), obs := [], pins := [] }
noncomputable def D_zcr : FD := ⟨wbtl, wbtm, [], List Y1, fun x => wakf x.1.1, fun r => ([.dat y2 r], [])⟩
noncomputable def wakg : Env := wae [(155, D_zcj), (191, D_zci)]
noncomputable def wakh : Nat → Nat → List Nat := fun r i => match look [(8, [(0, [3, 5])])] r with
 | some l => (look l i).getD []
 | none => []
noncomputable def waki : List (Nat × LD) := [(2, wru), (0, wrw)]
noncomputable def wacv : Code := (f151.body).getD .skip
noncomputable def wfh (k : Int × (Y2 × (Y1 × Y2))) (v : Y1 × Int) : Tr ((Y1 × Int) ⊕ Y1) :=
 .t (decide (v.2 < ((List.length k.2.1 : Nat) : Int)))
 (.g (inR v.2 (List.length k.2.1)) <|
 .t (((List.length (List.getD k.2.1 (Int.toNat v.2) ([] : Y1)) : Nat) : Int) == k.1)
 (.t (((List.length v.1 : Nat) : Int) == (0 : Int))
 (.g (inR v.2 (List.length k.2.1)) <|
 .l (.inl ((List.getD k.2.1 (Int.toNat v.2) ([] : Y1)), (IntKind.wrap .i64 (v.2 + (1 : Int))))))
 (.g (inR v.2 (List.length k.2.1)) <|
 .c (Int) (wpw k.2.2.1 k.2.2.2 (List.getD k.2.1 (Int.toNat v.2) ([] : Y1))) fun r16_ =>
 .c (Int) (wpw k.2.2.1 k.2.2.2 v.1) fun r17_ =>
 .t (decide (r16_ < r17_))
 (.g (inR v.2 (List.length k.2.1)) <|
 .l (.inl ((List.getD k.2.1 (Int.toNat v.2) ([] : Y1)), (IntKind.wrap .i64 (v.2 + (1 : Int))))))
 (.l (.inl (v.1, (IntKind.wrap .i64 (v.2 + (1 : Int))))))))
 (.l (.inl (v.1, (IntKind.wrap .i64 (v.2 + (1 : Int)))))))
 (.l (.inr v.1))
noncomputable def wakj (k : Int × (Y2 × (Y1 × Y2))) (v : Y1 × Int) : Option Y1 := iter (fun v => (wfh k v).ev) v
noncomputable def wrx : LD := ⟨{ acts := [.fz 12], S := { slots := [1, 2, 5, 6, 7], sh := (.cons (.dat yi) (.cons (.box 2 0) (.cons (.dat y2) (.cons (.dat y1) (.cons (.dat yi) .nil))))), obs := [(2, .cells (.cons (.dat y1) (.cons (.dat y2) .nil)))] } }, [(0, (yh [6] (.cons (.dat y1) .nil)))], (yh [] .nil), Int × (Y2 × (Y1 × Y2)), Y1 × (Int), Y1, fun k v => ((k.1, ((), (k.2.1, (v.1, (v.2, ()))))), ((k.2.2.1, (k.2.2.2, ())), ())), fun t => (t.1.1, (t.1.2.2.1, (t.2.1.1, t.2.1.2.1))), fun t => (t.1.2.2.2.1, t.1.2.2.2.2.1), wfh, fun _ r => .l (.exit 0 (wav ((ys [6] (.cons (.dat y1) .nil))) ((r, ()), ())))⟩
noncomputable def waxm (a1_ : Y1) (a2_ : List Y1) (a3_ : Int) : Tr Y1 :=
 .c Y2 (wakf ((List.length a1_ : Nat) : Int)) fun r1_ =>
 .c Y1 (wakj (a3_, (r1_, (a1_, a2_))) (([] : Y1), (0 : Int))) fun r19_ =>
 .l r19_
noncomputable def waxn (a1_ : Y1) (a2_ : List Y1) (a3_ : Int) : Option Y1 := (waxm a1_ a2_ a3_).ev
noncomputable def wbtn : Sh := (.cons (.agg (.cons (.dat y1) (.cons (.dat y2) .nil))) (.cons (.dat yi) .nil))
noncomputable def wbto : List (Nat × OSh) := []
noncomputable def K_zct : RetK := { acts := [], res := [.tmp 4], sh := (.cons (.dat y1) .nil), obs := [], pins := [] }
noncomputable def D_zct : FD := ⟨wbtn, wbto, [], Y1, fun x => waxn x.1.1.1 x.1.1.2.1 x.1.2.1, fun r => ([.dat y1 r], [])⟩
noncomputable def waxo : Env := wae [(151, D_zcr), (97, D_zcq)]
noncomputable def waxp : Nat → Nat → List Nat := fun _ _ => []
noncomputable def waxq : List (Nat × LD) := [(0, wrx)]
noncomputable def wakk : Code := (f98.body).getD .skip
noncomputable def waxr (a1_ : Int) (a2_ : Int) (a3_ : Int) (a4_ : Int) : Tr (Bool) :=
 .g (inR (1 : Int) 2) <|
 .t (a2_ == (0 : Int))
 (.g (inR (0 : Int) 2) <|
 .t (a1_ == (0 : Int))
 (.g (inR (1 : Int) 2) <|
 .t (a4_ == (0 : Int))
 (.g (inR (0 : Int) 2) <|
 .t (a3_ == (0 : Int))
 (.g (inR (1 : Int) 2) <|
 .t ((1 : Int) == (0 : Int))
 (.g (inR (1 : Int) 2) <|
 .t ((1 : Int) == (0 : Int))
 (.g (inR (1 : Int) 2) <|
 .l (decide ((0 : Int) < (1 : Int))))
 (.l false))
 (.g (inR (1 : Int) 2) <|
 .t ((1 : Int) == (0 : Int))
 (.g (inR (1 : Int) 2) <|
 .t ((1 : Int) == (0 : Int))
 (.g (inR (1 : Int) 2) <|
 .l (decide ((0 : Int) < (1 : Int))))
 (.l false))
 (.g (inR (0 : Int) 2) <|
 .g (inR (1 : Int) 2) <|
 .g (inR (0 : Int) 2) <|
 .g (inR (1 : Int) 2) <|
 .l (decide ((IntKind.wrap .i64 ((1 : Int) * (1 : Int))) < (IntKind.wrap .i64 ((1 : Int) * (1 : Int))))))))
 (.g (inR (1 : Int) 2) <|
 .t ((1 : Int) == (0 : Int))
 (.g (inR (1 : Int) 2) <|
 .t ((1 : Int) == (0 : Int))
 (.g (inR (1 : Int) 2) <|
 .l (decide ((0 : Int) < a4_)))
 (.l false))
 (.g (inR (1 : Int) 2) <|
 .t (a4_ == (0 : Int))
 (.g (inR (1 : Int) 2) <|
 .t ((1 : Int) == (0 : Int))
 (.g (inR (1 : Int) 2) <|
 .l (decide ((0 : Int) < a4_)))
 (.l false))
 (.g (inR (0 : Int) 2) <|
 .g (inR (1 : Int) 2) <|
 .g (inR (0 : Int) 2) <|
 .g (inR (1 : Int) 2) <|
 .l (decide ((IntKind.wrap .i64 (a3_ * (1 : Int))) < (IntKind.wrap .i64 ((1 : Int) * a4_))))))))
 (.g (inR (1 : Int) 2) <|
 .t ((1 : Int) == (0 : Int))
 (.g (inR (1 : Int) 2) <|
 .t ((1 : Int) == (0 : Int))
 (.g (inR (1 : Int) 2) <|
 .l (decide ((0 : Int) < a4_)))
 (.l false))
 (.g (inR (1 : Int) 2) <|
 .t (a4_ == (0 : Int))
 (.g (inR (1 : Int) 2) <|
 .t ((1 : Int) == (0 : Int))
 (.g (inR (1 : Int) 2) <|
 .l (decide ((0 : Int) < a4_)))
 (.l false))
 (.g (inR (0 : Int) 2) <|
 .g (inR (1 : Int) 2) <|
 .g (inR (0 : Int) 2) <|
 .g (inR (1 : Int) 2) <|
 .l (decide ((IntKind.wrap .i64 (a3_ * (1 : Int))) < (IntKind.wrap .i64 ((1 : Int) * a4_))))))))
 (.g (inR (1 : Int) 2) <|
 .t (a4_ == (0 : Int))
 (.g (inR (0 : Int) 2) <|
 .t (a3_ == (0 : Int))
 (.g (inR (1 : Int) 2) <|
 .t (a2_ == (0 : Int))
 (.g (inR (1 : Int) 2) <|
 .t (a2_ == (0 : Int))
 (.g (inR (1 : Int) 2) <|
 .l (decide ((0 : Int) < (1 : Int))))
 (.l false))
 (.g (inR (1 : Int) 2) <|
 .t ((1 : Int) == (0 : Int))
 (.g (inR (1 : Int) 2) <|
 .t (a2_ == (0 : Int))
 (.g (inR (1 : Int) 2) <|
 .l (decide ((0 : Int) < (1 : Int))))
 (.l false))
 (.g (inR (0 : Int) 2) <|
 .g (inR (1 : Int) 2) <|
 .g (inR (0 : Int) 2) <|
 .g (inR (1 : Int) 2) <|
 .l (decide ((IntKind.wrap .i64 ((1 : Int) * a2_)) < (IntKind.wrap .i64 (a1_ * (1 : Int))))))))
 (.g (inR (1 : Int) 2) <|
 .t (a2_ == (0 : Int))
 (.g (inR (1 : Int) 2) <|
 .t (a2_ == (0 : Int))
 (.g (inR (1 : Int) 2) <|
 .l (decide ((0 : Int) < a4_)))
 (.l false))
 (.g (inR (1 : Int) 2) <|
 .t (a4_ == (0 : Int))
 (.g (inR (1 : Int) 2) <|
 .t (a2_ == (0 : Int))
 (.g (inR (1 : Int) 2) <|
 .l (decide ((0 : Int) < a4_)))
 (.l false))
 (.g (inR (0 : Int) 2) <|
 .g (inR (1 : Int) 2) <|
 .g (inR (0 : Int) 2) <|
 .g (inR (1 : Int) 2) <|
 .l (decide ((IntKind.wrap .i64 (a3_ * a2_)) < (IntKind.wrap .i64 (a1_ * a4_))))))))
 (.g (inR (1 : Int) 2) <|
 .t (a2_ == (0 : Int))
 (.g (inR (1 : Int) 2) <|
 .t (a2_ == (0 : Int))
 (.g (inR (1 : Int) 2) <|
 .l (decide ((0 : Int) < a4_)))
 (.l false))
 (.g (inR (1 : Int) 2) <|
 .t (a4_ == (0 : Int))
 (.g (inR (1 : Int) 2) <|
 .t (a2_ == (0 : Int))
 (.g (inR (1 : Int) 2) <|
 .l (decide ((0 : Int) < a4_)))
 (.l false))
 (.g (inR (0 : Int) 2) <|
 .g (inR (1 : Int) 2) <|
 .g (inR (0 : Int) 2) <|
 .g (inR (1 : Int) 2) <|
 .l (decide ((IntKind.wrap .i64 (a3_ * a2_)) < (IntKind.wrap .i64 (a1_ * a4_)))))))))
 (.g (inR (1 : Int) 2) <|
 .t (a4_ == (0 : Int))
 (.g (inR (0 : Int) 2) <|
 .t (a3_ == (0 : Int))
 (.g (inR (1 : Int) 2) <|
 .t (a2_ == (0 : Int))
 (.g (inR (1 : Int) 2) <|
 .t (a2_ == (0 : Int))
 (.g (inR (1 : Int) 2) <|
 .l (decide ((0 : Int) < (1 : Int))))
 (.l false))
 (.g (inR (1 : Int) 2) <|
 .t ((1 : Int) == (0 : Int))
 (.g (inR (1 : Int) 2) <|
 .t (a2_ == (0 : Int))
 (.g (inR (1 : Int) 2) <|
 .l (decide ((0 : Int) < (1 : Int))))
 (.l false))
 (.g (inR (0 : Int) 2) <|
 .g (inR (1 : Int) 2) <|
 .g (inR (0 : Int) 2) <|
 .g (inR (1 : Int) 2) <|
 .l (decide ((IntKind.wrap .i64 ((1 : Int) * a2_)) < (IntKind.wrap .i64 (a1_ * (1 : Int))))))))
 (.g (inR (1 : Int) 2) <|
 .t (a2_ == (0 : Int))
 (.g (inR (1 : Int) 2) <|
 .t (a2_ == (0 : Int))
 (.g (inR (1 : Int) 2) <|
 .l (decide ((0 : Int) < a4_)))
 (.l false))
 (.g (inR (1 : Int) 2) <|
 .t (a4_ == (0 : Int))
 (.g (inR (1 : Int) 2) <|
 .t (a2_ == (0 : Int))
 (.g (inR (1 : Int) 2) <|
 .l (decide ((0 : Int) < a4_)))
 (.l false))
 (.g (inR (0 : Int) 2) <|
 .g (inR (1 : Int) 2) <|
 .g (inR (0 : Int) 2) <|
 .g (inR (1 : Int) 2) <|
 .l (decide ((IntKind.wrap .i64 (a3_ * a2_)) < (IntKind.wrap .i64 (a1_ * a4_))))))))
 (.g (inR (1 : Int) 2) <|
 .t (a2_ == (0 : Int))
 (.g (inR (1 : Int) 2) <|
 .t (a2_ == (0 : Int))
 (.g (inR (1 : Int) 2) <|
 .l (decide ((0 : Int) < a4_)))
 (.l false))
 (.g (inR (1 : Int) 2) <|
 .t (a4_ == (0 : Int))
 (.g (inR (1 : Int) 2) <|
 .t (a2_ == (0 : Int))
 (.g (inR (1 : Int) 2) <|
 .l (decide ((0 : Int) < a4_)))
 (.l false))
 (.g (inR (0 : Int) 2) <|
 .g (inR (1 : Int) 2) <|
 .g (inR (0 : Int) 2) <|
 .g (inR (1 : Int) 2) <|
 .l (decide ((IntKind.wrap .i64 (a3_ * a2_)) < (IntKind.wrap .i64 (a1_ * a4_))))))))
noncomputable def wakl (a1_ : Int) (a2_ : Int) (a3_ : Int) (a4_ : Int) : Option (Bool) := (waxr a1_ a2_ a3_ a4_).ev
noncomputable def wbtp : Sh := (.cons (.agg (.cons (.dat yi) (.cons (.dat yi) .nil))) (.cons (.agg (.cons (.dat yi) (.cons (.dat yi) .nil))) .nil))
noncomputable def wbtq : List (Nat × OSh) := []
noncomputable def K_zbs : RetK := { acts := [], res := [.tmp 4], sh := (.cons (.dat .bool) .nil), obs := [], pins := [] }
noncomputable def D_zbs : FD := ⟨wbtp, wbtq, [], Bool, fun x => wakl x.1.1.1 x.1.1.2.1 x.1.2.1.1 x.1.2.1.2.1, fun r => ([.dat .bool r], [])⟩
noncomputable def wbji : Env := wae []
noncomputable def wbjj : Nat → Nat → List Nat := fun _ _ => []
noncomputable def wbjk : List (Nat × LD) := []
noncomputable def wbjl : Code := (f99.body).getD .skip
noncomputable def wme (k : Y1 × (Y1 × (Y2 × (Int × Int)))) (v : Int × (Y1 × (Int × (Int × Int)))) : Tr ((Int × (Y1 × (Int × (Int × Int)))) ⊕ (Int × (Int × Int))) :=
 .t (decide (v.2.2.1 ≤ ((List.length k.1 : Nat) : Int)))
 (.g (inR (IntKind.wrap .i64 (v.2.2.1 - (1 : Int))) (List.length k.1)) <|
 .c Y1 (wxs v.2.1 (List.getD k.1 (Int.toNat (IntKind.wrap .i64 (v.2.2.1 - (1 : Int)))) (0 : Int))) fun r28_ =>
 .c (Int) (wpw k.2.1 k.2.2.1 r28_) fun r29_ =>
 .c Y1 (waxn k.2.1 k.2.2.1 v.2.2.1) fun r30_ =>
 .c (Int) (wpw k.2.1 k.2.2.1 r30_) fun r31_ =>
 .t (v.2.2.1 == (1 : Int))
 (.l (.inl (v.2.2.1, (r28_, ((IntKind.wrap .i64 (v.2.2.1 + (1 : Int))), (r29_, r31_))))))
 (.c (Bool) (wakl r29_ r31_ v.2.2.2.1 v.2.2.2.2) fun r32_ =>
 .t r32_
 (.l (.inl (v.2.2.1, (r28_, ((IntKind.wrap .i64 (v.2.2.1 + (1 : Int))), (r29_, r31_))))))
 (.l (.inl (v.1, (r28_, ((IntKind.wrap .i64 (v.2.2.1 + (1 : Int))), (v.2.2.2.1, v.2.2.2.2))))))))
 (.l (.inr (v.1, (v.2.2.2.1, v.2.2.2.2))))
noncomputable def wakm (k : Y1 × (Y1 × (Y2 × (Int × Int)))) (v : Int × (Y1 × (Int × (Int × Int)))) : Option (Int × (Int × Int)) := iter (fun v => (wme k v).ev) v
noncomputable def wry : LD := ⟨{ acts := [.fz 23], S := { slots := [1, 2, 5, 7, 8, 9, 10], sh := (.cons (.dat y1) (.cons (.box 2 0) (.cons (.box 5 0) (.cons (.box 7 0) (.cons (.dat yi) (.cons (.dat y1) (.cons (.dat yi) .nil))))))), obs := [(2, .cells (.cons (.dat y1) (.cons (.dat y2) .nil))), (5, .cells (.cons (.dat yi) (.cons (.dat yi) .nil))), (7, .cells (.cons (.dat yi) (.cons (.dat yi) .nil)))] } }, [(0, { acts := [], S := { slots := [5, 7, 8], sh := (.cons (.box 5 0) (.cons (.box 7 0) (.cons (.dat yi) .nil))), obs := [(5, .cells (.cons (.dat yi) (.cons (.dat yi) .nil))), (7, .cells (.cons (.dat yi) (.cons (.dat yi) .nil)))] } })], (yh [] .nil), Y1 × (Y1 × (Y2 × (Int × Int))), Int × (Y1 × (Int × (Int × Int))), Int × (Int × Int), fun k v => ((k.1, ((), ((), ((), (v.1, (v.2.1, (v.2.2.1, ()))))))), ((k.2.1, (k.2.2.1, ())), ((k.2.2.2.1, (k.2.2.2.2, ())), ((v.2.2.2.1, (v.2.2.2.2, ())), ())))), fun t => (t.1.1, (t.2.1.1, (t.2.1.2.1, (t.2.2.1.1, t.2.2.1.2.1)))), fun t => (t.1.2.2.2.2.1, (t.1.2.2.2.2.2.1, (t.1.2.2.2.2.2.2.1, (t.2.2.2.1.1, t.2.2.2.1.2.1)))), wme, fun k r => .l (.exit 0 (wav ({ slots := [5, 7, 8], sh := (.cons (.box 5 0) (.cons (.box 7 0) (.cons (.dat yi) .nil))), obs := [(5, .cells (.cons (.dat yi) (.cons (.dat yi) .nil))), (7, .cells (.cons (.dat yi) (.cons (.dat yi) .nil)))] }) (((), ((), (r.1, ()))), ((k.2.2.2.1, (k.2.2.2.2, ())), ((r.2.1, (r.2.2, ())), ())))))⟩
noncomputable def waxs (a1_ : Y1) (a2_ : List Y1) (a3_ : Y1) : Tr (Int × (Int × (Int × (Bool)))) :=
 .c (Bool) (wagz a1_ a2_) fun r1_ =>
 .t (!r1_)
 (.l ((0 : Int), ((0 : Int), ((0 : Int), false))))
 (.c (Bool) (waxa a1_ a2_ a3_) fun r2_ =>
 .t (!r2_)
 (.l ((0 : Int), ((0 : Int), ((0 : Int), false))))
 (.c (Int × (Int × Int)) (wakm (a3_, (a1_, (a2_, ((0 : Int), (0 : Int))))) ((0 : Int), (([] : Y1), ((1 : Int), ((0 : Int), (0 : Int)))))) fun r38_ =>
 .l (r38_.1, (r38_.2.1, (r38_.2.2, true)))))
noncomputable def waxt (a1_ : Y1) (a2_ : List Y1) (a3_ : Y1) : Option (Int × (Int × (Int × (Bool)))) := (waxs a1_ a2_ a3_).ev
noncomputable def wbtr : Sh := (.cons (.agg (.cons (.dat y1) (.cons (.dat y2) .nil))) (.cons (.dat y1) .nil))
noncomputable def wbts : List (Nat × OSh) := []
noncomputable def K_zbq : RetK := { acts := [], res := [.tmp 4, .cell 5 58, .tmp 6], sh := (.cons (.dat yi) (.cons (.agg (.cons (.dat yi) (.cons (.dat yi) .nil))) (.cons (.dat .bool) .nil))), obs := [], pins := [] }
noncomputable def D_zbq : FD := ⟨wbtr, wbts, [], Int × (Int × (Int × (Bool))), fun x => waxt x.1.1.1 x.1.1.2.1 x.1.2.1, fun r => ([.dat yi r.1, .agg [.dat yi r.2.1, .dat yi r.2.2.1], .dat .bool r.2.2.2], [])⟩
noncomputable def waxu : Env := wae [(94, D_zcl), (95, D_zbr), (96, D_zch), (97, D_zcq), (98, D_zct), (99, D_zbs)]
noncomputable def waxv : Nat → Nat → List Nat := fun r i => match look [(7, [(6, [30])])] r with
 | some l => (look l i).getD []
 | none => []
noncomputable def waxw : List (Nat × LD) := [(0, wry)]
noncomputable def wakn : Code := (f28.body).getD .skip
noncomputable def wmf (k : Y1 × Int) (v : Int) : Tr ((Int) ⊕ ((Unit) ⊕ (Unit))) :=
 .t (decide (v < ((List.length k.1 : Nat) : Int)))
 (.g (inR v (List.length k.1)) <|
 .t ((List.getD k.1 (Int.toNat v) (0 : Int)) == k.2)
 (.l (.inr (.inr ())))
 (.l (.inl (IntKind.wrap .i64 (v + (1 : Int))))))
 (.l (.inr (.inl ())))
noncomputable def wako (k : Y1 × Int) (v : Int) : Option ((Unit) ⊕ (Unit)) := iter (fun v => (wmf k v).ev) v
noncomputable def wrz : LD := ⟨(yh [0, 1, 5] (.cons (.dat y1) (.cons (.dat yi) (.cons (.dat yi) .nil)))), [(0, (yh [] .nil))], (yh [4] (.cons (.dat .bool) .nil)), Y1 × (Int), Int, (Unit) ⊕ (Unit), fun k v => ((k.1, (k.2, (v, ()))), ()), fun t => (t.1.1, t.1.2.1), fun t => t.1.2.2.1, wmf, fun _ r => .s (Unit) (Unit) r (fun _ => .l (.exit 0 (wav ((ys [] .nil)) ((), ())))) (fun _ => .l (.ret (wav ((ys [4] (.cons (.dat .bool) .nil))) ((true, ()), ()))))⟩
noncomputable def waxx (a1_ : Y1) (a2_ : Int) : Tr (Bool) :=
 .c ((Unit) ⊕ (Unit)) (wako (a1_, a2_) (0 : Int)) fun r5_ =>
 .s (Unit) (Unit) r5_
 (fun _ => .l false)
 (fun _ => .l true)
noncomputable def waxy (a1_ : Y1) (a2_ : Int) : Option (Bool) := (waxx a1_ a2_).ev
noncomputable def wbtt : Sh := (.cons (.dat y1) (.cons (.dat yi) .nil))
noncomputable def wbtu : List (Nat × OSh) := []
noncomputable def K_zah : RetK := { acts := [], res := [.tmp 4], sh := (.cons (.dat .bool) .nil), obs := [], pins := [] }
noncomputable def D_zah : FD := ⟨wbtt, wbtu, [], Bool, fun x => waxy x.1.1 x.1.2.1, fun r => ([.dat .bool r], [])⟩
noncomputable def waxz : Env := wae []
noncomputable def waya : Nat → Nat → List Nat := fun _ _ => []
noncomputable def wayb : List (Nat × LD) := [(0, wrz)]
noncomputable def wakp : Code := (f101.body).getD .skip
noncomputable def wgg (k : Y1) (v : Int × Y1) : Tr ((Int × Y1) ⊕ Y1) :=
 .t (decide (v.1 ≤ (1000 : Int)))
 (.c (Bool) (waxy k v.1) fun r4_ =>
 .t r4_
 (.g (decide ((List.length v.2 + List.length ([v.1] : Y1)) * 8 ≤ 140737488355328)) <|
 .l (.inl ((IntKind.wrap .i64 (v.1 + (1 : Int))), (v.2 ++ ([v.1] : Y1)))))
 (.l (.inl ((IntKind.wrap .i64 (v.1 + (1 : Int))), v.2))))
 (.l (.inr v.2))
noncomputable def wakq (k : Y1) (v : Int × Y1) : Option Y1 := iter (fun v => (wgg k v).ev) v
noncomputable def wsa : LD := ⟨{ acts := [], S := { slots := [0, 3, 4], sh := (.cons (.dat y1) (.cons (.arr 5) (.cons (.dat yi) .nil))), obs := [(5, .arr 3 yi)] } }, [(0, { acts := [], S := { slots := [3], sh := (.cons (.arr 5) .nil), obs := [(5, .arr 3 yi)] } })], (yh [] .nil), Y1, Int × Y1, Y1, fun k v => ((k, ((), (v.1, ()))), (v.2, ())), fun t => t.1.1, fun t => (t.1.2.2.1, t.2.1), wgg, fun _ r => .l (.exit 0 (wav ({ slots := [3], sh := (.cons (.arr 5) .nil), obs := [(5, .arr 3 yi)] }) (((), ()), (r, ()))))⟩
noncomputable def wayc (a1_ : Y1) : Tr Y1 :=
 .c Y1 (wakq a1_ ((-1 : Int), ([] : Y1))) fun r6_ =>
 .l r6_
noncomputable def wayd (a1_ : Y1) : Option Y1 := (wayc a1_).ev
noncomputable def wbtv : Sh := (.cons (.dat y1) .nil)
noncomputable def wbtw : List (Nat × OSh) := []
noncomputable def K_zai : RetK := { acts := [.ren 5 0], res := [.tmp 2], sh := (.cons (.arr 0) .nil), obs := [(0, .arr 3 yi)], pins := [] }
noncomputable def D_zai : FD := ⟨wbtv, wbtw, [], Y1, fun x => wayd x.1.1, fun r => ([.arr 0], [(0, .arr 3 yi r)])⟩
noncomputable def waye : Env := wae [(101, D_zah)]
noncomputable def wayf : Nat → Nat → List Nat := fun _ _ => []
noncomputable def wayg : List (Nat × LD) := [(0, wsa)]
noncomputable def wakr : Code := (f30.body).getD .skip
noncomputable def T_ze (a1_ : Y1) (_a2_ : List Y1) (a3_ : Y1) : Tr (Bool) :=
 .t (decide ((0 : Int) < ((List.length a3_ : Nat) : Int)))
 (.c (Bool) (wair a3_ ((List.length a1_ : Nat) : Int)) fun r1_ =>
 .l r1_)
 (.l false)
noncomputable def F_ze (a1_ : Y1) (a2_ : List Y1) (a3_ : Y1) : Option (Bool) := (T_ze a1_ a2_ a3_).ev
def A_ze : Sh := (.cons (.agg (.cons (.dat y1) (.cons (.dat y2) .nil))) (.cons (.dat y1) .nil))
def I_ze : List (Nat × OSh) := []
noncomputable def K_ze : RetK := { acts := [], res := [.tmp 4], sh := (.cons (.dat .bool) .nil), obs := [], pins := [] }
noncomputable def D_ze : FD := ⟨A_ze, I_ze, [], Bool, fun x => F_ze x.1.1.1 x.1.1.2.1 x.1.2.1, fun r => ([.dat .bool r], [])⟩
noncomputable def E_ze : Env := wae [(106, D_zab)]
def Z_ze : Nat → Nat → List Nat := fun _ _ => []
noncomputable def O_ze : List (Nat × LD) := []
noncomputable def C_ze : Code := (f152.body).getD .skip
noncomputable def T_zz (a1_ : Y1) (a2_ : List Y1) (a3_ : Y1) : Tr (Bool) :=
 .c (Bool) (F_zm a1_ a2_) fun r1_ =>
 .t r1_
 (.c (Bool) (F_ze a1_ a2_ a3_) fun r2_ =>
 .l r2_)
 (.l false)
noncomputable def F_zz (a1_ : Y1) (a2_ : List Y1) (a3_ : Y1) : Option (Bool) := (T_zz a1_ a2_ a3_).ev
def A_zz : Sh := (.cons (.agg (.cons (.dat y1) (.cons (.dat y2) .nil))) (.cons (.dat y1) .nil))
def I_zz : List (Nat × OSh) := []
noncomputable def K_zz : RetK := { acts := [], res := [.tmp 4], sh := (.cons (.dat .bool) .nil), obs := [], pins := [] }
noncomputable def D_zz : FD := ⟨A_zz, I_zz, [], Bool, fun x => F_zz x.1.1.1 x.1.1.2.1 x.1.2.1, fun r => ([.dat .bool r], [])⟩
noncomputable def E_zz : Env := wae [(87, D_zm), (152, D_ze)]
def Z_zz : Nat → Nat → List Nat := fun _ _ => []
noncomputable def O_zz : List (Nat × LD) := []
noncomputable def C_zz : Code := (f100.body).getD .skip
noncomputable def T_zr (a1_ : Y1) (a2_ : List Y1) (a3_ : Y1) : Tr (Int × (Bool)) :=
 .c (Bool) (F_zz a1_ a2_ a3_) fun r1_ =>
 .t (!r1_)
 (.l ((0 : Int), false))
 (.c (Int) (F_zk a1_ a2_ a3_) fun r2_ =>
 .l (r2_, true))
noncomputable def F_zr (a1_ : Y1) (a2_ : List Y1) (a3_ : Y1) : Option (Int × (Bool)) := (T_zr a1_ a2_ a3_).ev
def A_zr : Sh := (.cons (.agg (.cons (.dat y1) (.cons (.dat y2) .nil))) (.cons (.dat y1) .nil))
def I_zr : List (Nat × OSh) := []
noncomputable def K_zr : RetK := { acts := [], res := [.tmp 4, .tmp 5], sh := (.cons (.dat yi) (.cons (.dat .bool) .nil)), obs := [], pins := [] }
noncomputable def D_zr : FD := ⟨A_zr, I_zr, [], Int × (Bool), fun x => F_zr x.1.1.1 x.1.1.2.1 x.1.2.1, fun r => ([.dat yi r.1, .dat .bool r.2], [])⟩
noncomputable def E_zr : Env := wae [(100, D_zz), (91, D_zk)]
def Z_zr : Nat → Nat → List Nat := fun _ _ => []
noncomputable def O_zr : List (Nat × LD) := []
noncomputable def C_zr : Code := (f29.body).getD .skip
noncomputable def T_zy (a1_ : Y1) (a2_ : List Y1) (a3_ : Int) : Tr (Bool) :=
 .c (Bool) (F_zm a1_ a2_) fun r1_ =>
 .t r1_
 (.c (Bool) (F_zw a3_ (1 : Int) ((List.length a1_ : Nat) : Int)) fun r2_ =>
 .l r2_)
 (.l false)
noncomputable def F_zy (a1_ : Y1) (a2_ : List Y1) (a3_ : Int) : Option (Bool) := (T_zy a1_ a2_ a3_).ev
def A_zy : Sh := (.cons (.agg (.cons (.dat y1) (.cons (.dat y2) .nil))) (.cons (.dat yi) .nil))
def I_zy : List (Nat × OSh) := []
noncomputable def K_zy : RetK := { acts := [], res := [.tmp 4], sh := (.cons (.dat .bool) .nil), obs := [], pins := [] }
noncomputable def D_zy : FD := ⟨A_zy, I_zy, [], Bool, fun x => F_zy x.1.1.1 x.1.1.2.1 x.1.2.1, fun r => ([.dat .bool r], [])⟩
noncomputable def E_zy : Env := wae [(87, D_zm), (67, D_zw)]
def Z_zy : Nat → Nat → List Nat := fun _ _ => []
noncomputable def O_zy : List (Nat × LD) := []
noncomputable def C_zy : Code := (f102.body).getD .skip
noncomputable def T_zo (a1_ : Y1) (a2_ : List Y1) (a3_ : Int) : Tr (Int × (Bool)) :=
 .c (Bool) (F_zy a1_ a2_ a3_) fun r1_ =>
 .t (!r1_)
 (.l ((0 : Int), false))
 (.c Y1 (F_zg a1_ a2_ a3_) fun r2_ =>
 .c (Int) (F_zk a1_ a2_ r2_) fun r3_ =>
 .l (r3_, true))
noncomputable def F_zo (a1_ : Y1) (a2_ : List Y1) (a3_ : Int) : Option (Int × (Bool)) := (T_zo a1_ a2_ a3_).ev
def A_zo : Sh := (.cons (.agg (.cons (.dat y1) (.cons (.dat y2) .nil))) (.cons (.dat yi) .nil))
def I_zo : List (Nat × OSh) := []
noncomputable def K_zo : RetK := { acts := [], res := [.tmp 4, .tmp 5], sh := (.cons (.dat yi) (.cons (.dat .bool) .nil)), obs := [], pins := [] }
noncomputable def D_zo : FD := ⟨A_zo, I_zo, [], Int × (Bool), fun x => F_zo x.1.1.1 x.1.1.2.1 x.1.2.1, fun r => ([.dat yi r.1, .dat .bool r.2], [])⟩
noncomputable def E_zo : Env := wae [(102, D_zy), (103, D_zg), (91, D_zk)]
def Z_zo : Nat → Nat → List Nat := fun _ _ => []
noncomputable def O_zo : List (Nat × LD) := []
noncomputable def C_zo : Code := (f31.body).getD .skip
noncomputable def wmg (k : Y1 × (Int × (Int × (Int × (Y1 × Y2))))) (v : Int) : Tr ((Int) ⊕ ((Unit) ⊕ (Unit))) :=
 .t (decide (v ≤ ((List.length k.1 : Nat) : Int)))
 (.g (decide ((0 : Int) ≤ v) && decide (v ≤ ((List.length k.1 : Nat) : Int))) <|
 .c Y1 (wayd (List.drop 0 (List.take (Int.toNat v) k.1))) fun r22_ =>
 .c (Int × (Bool)) (F_zr k.2.2.2.2.1 k.2.2.2.2.2 r22_) fun r23_ =>
 .c (Int × (Bool)) (F_zo k.2.2.2.2.1 k.2.2.2.2.2 v) fun r24_ =>
 .t (!r23_.2)
 (.l (.inr (.inr ())))
 (.t (!r24_.2)
 (.l (.inr (.inr ())))
 (.t (decide (r23_.1 < r24_.1))
 (.l (.inr (.inr ())))
 (.t (v == k.2.1)
 (.t (!((k.2.2.1 == r23_.1) && ((k.2.2.2.1 == r24_.1) && true)))
 (.l (.inr (.inr ())))
 (.g (inR (1 : Int) 2) <|
 .t (decide ((0 : Int) < k.2.2.2.1))
 (.t (r24_.1 == (0 : Int))
 (.t (decide ((0 : Int) < r23_.1))
 (.l (.inr (.inr ())))
 (.t (decide ((0 : Int) < r24_.1))
 (.g (inR (1 : Int) 2) <|
 .g (inR (0 : Int) 2) <|
 .t (decide ((IntKind.wrap .i64 (k.2.2.1 * r24_.1)) < (IntKind.wrap .i64 (r23_.1 * k.2.2.2.1))))
 (.l (.inr (.inr ())))
 (.l (.inl (IntKind.wrap .i64 (v + (1 : Int))))))
 (.l (.inl (IntKind.wrap .i64 (v + (1 : Int)))))))
 (.t (decide ((0 : Int) < r24_.1))
 (.g (inR (1 : Int) 2) <|
 .g (inR (0 : Int) 2) <|
 .t (decide ((IntKind.wrap .i64 (k.2.2.1 * r24_.1)) < (IntKind.wrap .i64 (r23_.1 * k.2.2.2.1))))
 (.l (.inr (.inr ())))
 (.l (.inl (IntKind.wrap .i64 (v + (1 : Int))))))
 (.l (.inl (IntKind.wrap .i64 (v + (1 : Int)))))))
 (.l (.inl (IntKind.wrap .i64 (v + (1 : Int)))))))
 (.g (inR (1 : Int) 2) <|
 .t (decide ((0 : Int) < k.2.2.2.1))
 (.t (r24_.1 == (0 : Int))
 (.t (decide ((0 : Int) < r23_.1))
 (.l (.inr (.inr ())))
 (.t (decide ((0 : Int) < r24_.1))
 (.g (inR (1 : Int) 2) <|
 .g (inR (0 : Int) 2) <|
 .t (decide ((IntKind.wrap .i64 (k.2.2.1 * r24_.1)) < (IntKind.wrap .i64 (r23_.1 * k.2.2.2.1))))
 (.l (.inr (.inr ())))
 (.l (.inl (IntKind.wrap .i64 (v + (1 : Int))))))
 (.l (.inl (IntKind.wrap .i64 (v + (1 : Int)))))))
 (.t (decide ((0 : Int) < r24_.1))
 (.g (inR (1 : Int) 2) <|
 .g (inR (0 : Int) 2) <|
 .t (decide ((IntKind.wrap .i64 (k.2.2.1 * r24_.1)) < (IntKind.wrap .i64 (r23_.1 * k.2.2.2.1))))
 (.l (.inr (.inr ())))
 (.l (.inl (IntKind.wrap .i64 (v + (1 : Int))))))
 (.l (.inl (IntKind.wrap .i64 (v + (1 : Int)))))))
 (.l (.inl (IntKind.wrap .i64 (v + (1 : Int))))))))))
 (.l (.inr (.inl ())))
noncomputable def waks (k : Y1 × (Int × (Int × (Int × (Y1 × Y2))))) (v : Int) : Option ((Unit) ⊕ (Unit)) := iter (fun v => (wmg k v).ev) v
noncomputable def wsb : LD := ⟨{ acts := [.fz 1281], S := { slots := [3, 4, 5, 6, 11], sh := (.cons (.box 3 0) (.cons (.dat y1) (.cons (.dat yi) (.cons (.box 6 0) (.cons (.dat yi) .nil))))), obs := [(3, .cells (.cons (.arr 1283) (.cons (.arr 1284) .nil))), (6, .cells (.cons (.dat yi) (.cons (.dat yi) .nil))), (1283, .arr 3 yi), (1284, .rows 22 3 yi)] } }, [(0, (yh [4, 5] (.cons (.dat y1) (.cons (.dat yi) .nil))))], (yh [2] (.cons (.dat .bool) .nil)), Y1 × (Int × (Int × (Int × (Y1 × Y2)))), Int, (Unit) ⊕ (Unit), fun k v => (((), (k.1, (k.2.1, ((), (v, ()))))), (((), ((), ())), ((k.2.2.1, (k.2.2.2.1, ())), (k.2.2.2.2.1, (k.2.2.2.2.2, ()))))), fun t => (t.1.2.1, (t.1.2.2.1, (t.2.2.1.1, (t.2.2.1.2.1, (t.2.2.2.1, t.2.2.2.2.1))))), fun t => t.1.2.2.2.2.1, wmg, fun k r => .s (Unit) (Unit) r (fun _ => .l (.exit 0 (wav ((ys [4, 5] (.cons (.dat y1) (.cons (.dat yi) .nil)))) ((k.1, (k.2.1, ())), ())))) (fun _ => .l (.ret (wav ((ys [2] (.cons (.dat .bool) .nil))) ((false, ()), ()))))⟩
noncomputable def wayh (a1_ : Y1) : Tr (Bool) :=
 .c (Bool) (wbdu a1_) fun r1_ =>
 .t r1_
 (.l true)
 (.c (Y1 × (Y2 × Y1)) (wauj a1_) fun r2_ =>
 .c (Int × (Int × (Int × (Bool)))) (F_zp r2_.1 r2_.2.1 r2_.2.2) fun r3_ =>
 .c (Int × (Int × (Int × (Bool)))) (waxt r2_.1 r2_.2.1 r2_.2.2) fun r4_ =>
 .t (r3_.1 != r4_.1)
 (.l false)
 (.t (!((r3_.2.1 == r4_.2.1) && ((r3_.2.2.1 == r4_.2.2.1) && true)))
 (.l false)
 (.t (!(r3_.2.2.2 == r4_.2.2.2))
 (.l false)
 (.t (!r3_.2.2.2)
 (.l true)
 (.c ((Unit) ⊕ (Unit)) (waks (r2_.2.2, (r3_.1, (r3_.2.1, (r3_.2.2.1, (r2_.1, r2_.2.1))))) (1 : Int)) fun r28_ =>
 .s (Unit) (Unit) r28_
 (fun _ => .t (decide ((1 : Int) ≤ r3_.1))
 (.l (decide (r3_.1 ≤ ((List.length r2_.2.2 : Nat) : Int))))
 (.l false))
 (fun _ => .l false))))))
noncomputable def wbjm (a1_ : Y1) : Option (Bool) := (wayh a1_).ev
noncomputable def wbtx : Sh := (.cons (.dat (.slice (.int .u8))) .nil)
noncomputable def wbty : List (Nat × OSh) := []
noncomputable def K_zaf : RetK := { acts := [], res := [.tmp 2], sh := (.cons (.dat .bool) .nil), obs := [], pins := [] }
noncomputable def D_zaf : FD := ⟨wbtx, wbty, [], Bool, fun x => wbjm x.1.1, fun r => ([.dat .bool r], [])⟩
noncomputable def wayi : Env := wae [(25, D_zag), (26, D_zbo), (27, D_zp), (28, D_zbq), (30, D_zai), (29, D_zr), (31, D_zo)]
noncomputable def wayj : Nat → Nat → List Nat := fun r i => match look [(13, [(0, [4])])] r with
 | some l => (look l i).getD []
 | none => []
noncomputable def wayk : List (Nat × LD) := [(0, wsb)]
noncomputable def wakt : Code := (f5.body).getD .skip
end Go.Proofs.YtbofjefpngpegaaGreat
