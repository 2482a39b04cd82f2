import Derived.Test.YtakbhfnndcnopaaDoorB32
import Derived.Test.YtakbhfnndcnopaaDoorProg
namespace Go.Proofs.YtakbhfnndcnopaaDoor
open Go.Proofs.Tryd

noncomputable def tabl : List (Nat × TD) := [(3, .sc (.int .i64)), (4, .sc .bool), (5, .sc (.int .u8)), (9, .sc .str), (27, .st (.pair .str .str) [(9, .str), (9, .str)]), (31, .st (.pair .str (.pair .str (.int .i64))) [(9, .str), (9, .str), (3, (.int .i64))]), (36, .st (.pair .str (.pair .str (.int .i64))) [(9, .str), (9, .str), (3, (.int .i64))]), (48, .sl 27 (.pair .str .str) 32), (53, .sl 5 (.int .u8) 1), (91, .sc (.int .u64)), (93, .st (.pair (.slice (.int .u8)) (.pair (.int .i64) (.int .u64))) [(53, (.slice (.int .u8))), (3, (.int .i64)), (91, (.int .u64))]), (109, .sl 9 .str 16)]

noncomputable def tt : Nat → TD := fun i => match look tabl i with
  | some d => d
  | none => .no

/-! ### 20 loop.example/g01110/laws.szLog -/

noncomputable def T_lw_szLog (a1_ : List UInt8) (a2_ : List UInt8) (_a3_ : Int) (a4_ : Int) : Tr (Int) :=
  .t (decide ((IntKind.wrap .i64 (a4_ - ((List.length a1_ : Nat) : Int))) < (0 : Int)))
    (.l (-1 : Int))
    (.t (decide ((IntKind.wrap .i64 ((IntKind.wrap .i64 (a4_ - ((List.length a1_ : Nat) : Int))) - ((List.length a2_ : Nat) : Int))) < (0 : Int)))
        (.l (-1 : Int))
        (.l (IntKind.wrap .i64 ((IntKind.wrap .i64 (a4_ - ((List.length a1_ : Nat) : Int))) - ((List.length a2_ : Nat) : Int)))))

noncomputable def F_lw_szLog (a1_ : List UInt8) (a2_ : List UInt8) (a3_ : Int) (a4_ : Int) : Option (Int) := (T_lw_szLog a1_ a2_ a3_ a4_).ev

noncomputable def A_lw_szLog : Sh := (.cons (.agg (.cons (.dat .str) (.cons (.dat .str) (.cons (.dat (.int .i64)) .nil)))) (.cons (.dat (.int .i64)) .nil))

noncomputable def I_lw_szLog : List (Nat × OSh) := []

noncomputable def K_lw_szLog : RetK := { acts := [], res := [.tmp 4], sh := (.cons (.dat (.int .i64)) .nil), obs := [], pins := [] }

noncomputable def D_lw_szLog : FD where
  A := A_lw_szLog
  ins := I_lw_szLog
  lend := []
  R := Int
  F := fun x => F_lw_szLog x.1.1.1 x.1.1.2.1 x.1.1.2.2.1 x.1.2.1
  emb := fun r => ([.dat (.int .i64) r], [])

noncomputable def E_lw_szLog : Env := envOf []

noncomputable def Z_lw_szLog : Nat → Nat → List Nat := fun _ _ => []

noncomputable def O_lw_szLog : List (Nat × LD) := []

noncomputable def C_lw_szLog : Code := (f20.body).getD .skip

/-! ### 22 loop.example/g01110/laws.toLog -/

noncomputable def T_lw_toLog (a1_ : List UInt8) (a2_ : List UInt8) (a3_ : Int) : Tr ((List UInt8) × ((List UInt8) × (Int))) :=
  .l (a1_, (a2_, a3_))

noncomputable def F_lw_toLog (a1_ : List UInt8) (a2_ : List UInt8) (a3_ : Int) : Option ((List UInt8) × ((List UInt8) × (Int))) := (T_lw_toLog a1_ a2_ a3_).ev

noncomputable def A_lw_toLog : Sh := (.cons (.agg (.cons (.dat .str) (.cons (.dat .str) (.cons (.dat (.int .i64)) .nil)))) .nil)

noncomputable def I_lw_toLog : List (Nat × OSh) := []

noncomputable def K_lw_toLog : RetK := { acts := [], res := [.cell 2 31], sh := (.cons (.agg (.cons (.dat .str) (.cons (.dat .str) (.cons (.dat (.int .i64)) .nil)))) .nil), obs := [], pins := [] }

noncomputable def D_lw_toLog : FD where
  A := A_lw_toLog
  ins := I_lw_toLog
  lend := []
  R := (List UInt8) × ((List UInt8) × (Int))
  F := fun x => F_lw_toLog x.1.1.1 x.1.1.2.1 x.1.1.2.2.1
  emb := fun r => ([.agg [.dat .str r.1, .dat .str r.2.1, .dat (.int .i64) r.2.2]], [])

noncomputable def E_lw_toLog : Env := envOf []

noncomputable def Z_lw_toLog : Nat → Nat → List Nat := fun _ _ => []

noncomputable def O_lw_toLog : List (Nat × LD) := []

noncomputable def C_lw_toLog : Code := (f22.body).getD .skip

/-! ### 82 loop.example/g01110/spec.l1Split -/

noncomputable def S_sp_l1Split_0 (k : (List UInt8) × (Int)) (v : (Int) × ((Int) × (List (List UInt8)))) : Tr (((Int) × ((Int) × (List (List UInt8)))) ⊕ ((Int) × (List (List UInt8)))) :=
  .t (decide (v.2.1 < ((List.length k.1 : Nat) : Int)))
    (.g (inR v.2.1 (List.length k.1)) <|
      .t (((UInt8.toNat (List.getD k.1 (Int.toNat v.2.1) 0) : Nat) : Int) == k.2)
        (.g (decide ((0 : Int) ≤ v.1) && decide (v.1 ≤ v.2.1) && decide (v.2.1 ≤ ((List.length k.1 : Nat) : Int))) <|
          .g (decide ((List.length v.2.2 + List.length ([(List.drop (Int.toNat v.1) (List.take (Int.toNat v.2.1) k.1))] : List (List UInt8))) * 16 ≤ 140737488355328)) <|
          .l (.inl ((IntKind.wrap .i64 (v.2.1 + (1 : Int))), ((IntKind.wrap .i64 (v.2.1 + (1 : Int))), (v.2.2 ++ ([(List.drop (Int.toNat v.1) (List.take (Int.toNat v.2.1) k.1))] : List (List UInt8)))))))
        (.l (.inl (v.1, ((IntKind.wrap .i64 (v.2.1 + (1 : Int))), v.2.2)))))
    (.l (.inr (v.1, v.2.2)))

noncomputable def L_sp_l1Split_0 (k : (List UInt8) × (Int)) (v : (Int) × ((Int) × (List (List UInt8)))) : Option ((Int) × (List (List UInt8))) := iter (fun v => (S_sp_l1Split_0 k v).ev) v

noncomputable def DL_sp_l1Split_0 : LD where
  head := { acts := [], S := { slots := [0, 1, 5, 6, 7], sh := (.cons (.dat .str) (.cons (.dat (.int .u8)) (.cons (.arr 8) (.cons (.dat (.int .i64)) (.cons (.dat (.int .i64)) .nil))))), obs := [(8, .arr 9 .str)] } }
  exits := [(0, { acts := [], S := { slots := [0, 5, 6], sh := (.cons (.dat .str) (.cons (.arr 8) (.cons (.dat (.int .i64)) .nil))), obs := [(8, .arr 9 .str)] } })]
  rets := { acts := [], S := { slots := [], sh := .nil, obs := [] } }
  K := (List UInt8) × (Int)
  V := (Int) × ((Int) × (List (List UInt8)))
  R := (Int) × (List (List UInt8))
  join := fun k v => ((k.1, (k.2, ((), (v.1, (v.2.1, ()))))), (v.2.2, ()))
  sk := fun t => (t.1.1, t.1.2.1)
  sv := fun t => (t.1.2.2.2.1, (t.1.2.2.2.2.1, t.2.1))
  step := S_sp_l1Split_0
  leaf := fun k r => .l (.exit 0 (mkSt ({ slots := [0, 5, 6], sh := (.cons (.dat .str) (.cons (.arr 8) (.cons (.dat (.int .i64)) .nil))), obs := [(8, .arr 9 .str)] }) ((k.1, ((), (r.1, ()))), (r.2, ()))))

noncomputable def T_sp_l1Split (a1_ : List UInt8) (a2_ : Int) : Tr (List (List UInt8)) :=
  .c ((Int) × (List (List UInt8))) (L_sp_l1Split_0 (a1_, a2_) ((0 : Int), ((0 : Int), ([] : List (List UInt8))))) fun r9_ =>
  .g (decide ((0 : Int) ≤ r9_.1) && decide (r9_.1 ≤ ((List.length a1_ : Nat) : Int))) <|
  .g (decide ((List.length r9_.2 + List.length ([(List.drop (Int.toNat r9_.1) (List.take (List.length a1_) a1_))] : List (List UInt8))) * 16 ≤ 140737488355328)) <|
  .l (r9_.2 ++ ([(List.drop (Int.toNat r9_.1) (List.take (List.length a1_) a1_))] : List (List UInt8)))

noncomputable def F_sp_l1Split (a1_ : List UInt8) (a2_ : Int) : Option (List (List UInt8)) := (T_sp_l1Split a1_ a2_).ev

noncomputable def A_sp_l1Split : Sh := (.cons (.dat .str) (.cons (.dat (.int .u8)) .nil))

noncomputable def I_sp_l1Split : List (Nat × OSh) := []

noncomputable def K_sp_l1Split : RetK := { acts := [.ren 8 0], res := [.tmp 4], sh := (.cons (.arr 0) .nil), obs := [(0, .arr 9 .str)], pins := [] }

noncomputable def D_sp_l1Split : FD where
  A := A_sp_l1Split
  ins := I_sp_l1Split
  lend := []
  R := List (List UInt8)
  F := fun x => F_sp_l1Split x.1.1 x.1.2.1
  emb := fun r => ([.arr 0], [(0, .arr 9 .str r)])

noncomputable def E_sp_l1Split : Env := envOf []

noncomputable def Z_sp_l1Split : Nat → Nat → List Nat := fun _ _ => []

noncomputable def O_sp_l1Split : List (Nat × LD) := [(0, DL_sp_l1Split_0)]

noncomputable def C_sp_l1Split : Code := (f82.body).getD .skip

/-! ### 79 loop.example/g01110/spec.l1Num -/

noncomputable def T_sp_l1Num (rec_ : (Int) → Option (List UInt8)) (a1_ : Int) : Tr (List UInt8) :=
  .t (decide (a1_ < (0 : Int)))
    (.c (List UInt8) (rec_ (IntKind.wrap .i64 (0 - a1_))) fun r1_ =>
      .g (decide (List.length ([45] : List UInt8) + List.length r1_ ≤ 9223372036854775807)) <|
      .l (([45] : List UInt8) ++ r1_))
    (.t (decide (a1_ < (10 : Int)))
        (.g (decide ((0 : Int) ≤ a1_) && decide (a1_ ≤ (IntKind.wrap .i64 (a1_ + (1 : Int)))) && decide ((IntKind.wrap .i64 (a1_ + (1 : Int))) ≤ ((List.length ([48, 49, 50, 51, 52, 53, 54, 55, 56, 57] : List UInt8) : Nat) : Int))) <|
          .l (List.drop (Int.toNat a1_) (List.take (Int.toNat (IntKind.wrap .i64 (a1_ + (1 : Int)))) ([48, 49, 50, 51, 52, 53, 54, 55, 56, 57] : List UInt8))))
        (.g (!decide ((10 : Int) = 0)) <|
          .c (List UInt8) (rec_ (IntKind.wrap .i64 (Int.tdiv a1_ (10 : Int)))) fun r2_ =>
          .g (!decide ((10 : Int) = 0)) <|
          .g (!decide ((10 : Int) = 0)) <|
          .g (decide ((0 : Int) ≤ (Int.tmod a1_ (10 : Int))) && decide ((Int.tmod a1_ (10 : Int)) ≤ (IntKind.wrap .i64 ((Int.tmod a1_ (10 : Int)) + (1 : Int)))) && decide ((IntKind.wrap .i64 ((Int.tmod a1_ (10 : Int)) + (1 : Int))) ≤ ((List.length ([48, 49, 50, 51, 52, 53, 54, 55, 56, 57] : List UInt8) : Nat) : Int))) <|
          .g (decide (List.length r2_ + List.length (List.drop (Int.toNat (Int.tmod a1_ (10 : Int))) (List.take (Int.toNat (IntKind.wrap .i64 ((Int.tmod a1_ (10 : Int)) + (1 : Int)))) ([48, 49, 50, 51, 52, 53, 54, 55, 56, 57] : List UInt8))) ≤ 9223372036854775807)) <|
          .l (r2_ ++ (List.drop (Int.toNat (Int.tmod a1_ (10 : Int))) (List.take (Int.toNat (IntKind.wrap .i64 ((Int.tmod a1_ (10 : Int)) + (1 : Int)))) ([48, 49, 50, 51, 52, 53, 54, 55, 56, 57] : List UInt8))))))

noncomputable def F_sp_l1Num : Nat → (Int) → Option (List UInt8)
  | 0 => fun _ => none
  | n + 1 => fun a1_ => (T_sp_l1Num (F_sp_l1Num n) a1_).ev

noncomputable def A_sp_l1Num : Sh := (.cons (.dat (.int .i64)) .nil)

noncomputable def I_sp_l1Num : List (Nat × OSh) := []

noncomputable def K_sp_l1Num : RetK := { acts := [], res := [.tmp 2], sh := (.cons (.dat .str) .nil), obs := [], pins := [] }

noncomputable def Dr_sp_l1Num (rec_ : (Int) → Option (List UInt8)) : FD where
  A := A_sp_l1Num
  ins := I_sp_l1Num
  lend := []
  R := List UInt8
  F := fun x => rec_ x.1.1
  emb := fun r => ([.dat .str r], [])

noncomputable def D_sp_l1Num (n : Nat) : FD := Dr_sp_l1Num (F_sp_l1Num n)

noncomputable def E_sp_l1Num (rec_ : (Int) → Option (List UInt8)) : Env := envOf [(79, Dr_sp_l1Num rec_)]

noncomputable def Z_sp_l1Num : Nat → Nat → List Nat := fun _ _ => []

noncomputable def O_sp_l1Num (rec_ : (Int) → Option (List UInt8)) : List (Nat × LD) := []

noncomputable def C_sp_l1Num : Code := (f79.body).getD .skip

/-! ### 51 loop.example/g01110/spec.l1In -/

noncomputable def T_sp_l1In (a1_ : Int) (a2_ : Int) (a3_ : Int) : Tr (Bool) :=
  .t (decide (a2_ ≤ a1_))
    (.l (decide (a1_ ≤ a3_)))
    (.l false)

noncomputable def F_sp_l1In (a1_ : Int) (a2_ : Int) (a3_ : Int) : Option (Bool) := (T_sp_l1In a1_ a2_ a3_).ev

noncomputable def A_sp_l1In : Sh := (.cons (.dat (.int .i64)) (.cons (.dat (.int .i64)) (.cons (.dat (.int .i64)) .nil)))

noncomputable def I_sp_l1In : List (Nat × OSh) := []

noncomputable def K_sp_l1In : RetK := { acts := [], res := [.tmp 6], sh := (.cons (.dat .bool) .nil), obs := [], pins := [] }

noncomputable def D_sp_l1In : FD where
  A := A_sp_l1In
  ins := I_sp_l1In
  lend := []
  R := Bool
  F := fun x => F_sp_l1In x.1.1 x.1.2.1 x.1.2.2.1
  emb := fun r => ([.dat .bool r], [])

noncomputable def E_sp_l1In : Env := envOf []

noncomputable def Z_sp_l1In : Nat → Nat → List Nat := fun _ _ => []

noncomputable def O_sp_l1In : List (Nat × LD) := []

noncomputable def C_sp_l1In : Code := (f51.body).getD .skip

/-! ### 76 loop.example/g01110/spec.l12Bytes -/

noncomputable def S_sp_l12Bytes_0 (k : (List UInt8) × (Int)) (v : Int) : Tr ((Int) ⊕ ((Unit) ⊕ (Unit))) :=
  .t (decide (v < ((List.length k.1 : Nat) : Int)))
    (.g (inR v (List.length k.1)) <|
      .c (Bool) (F_sp_l1In (IntKind.wrap .i64 ((UInt8.toNat (List.getD k.1 (Int.toNat v) 0) : Nat) : Int)) (32 : Int) (126 : Int)) fun r4_ =>
      .t (!r4_)
        (.l (.inr (.inr ())))
        (.g (inR v (List.length k.1)) <|
          .t (((UInt8.toNat (List.getD k.1 (Int.toNat v) 0) : Nat) : Int) == (35 : Int))
            (.l (.inr (.inr ())))
            (.l (.inl (IntKind.wrap .i64 (v + (1 : Int)))))))
    (.l (.inr (.inl ())))

noncomputable def L_sp_l12Bytes_0 (k : (List UInt8) × (Int)) (v : Int) : Option ((Unit) ⊕ (Unit)) := iter (fun v => (S_sp_l12Bytes_0 k v).ev) v

noncomputable def DL_sp_l12Bytes_0 : LD where
  head := { acts := [], S := { slots := [0, 1, 5], sh := (.cons (.dat .str) (.cons (.dat (.int .i64)) (.cons (.dat (.int .i64)) .nil))), obs := [] } }
  exits := [(0, { acts := [], S := { slots := [0, 1], sh := (.cons (.dat .str) (.cons (.dat (.int .i64)) .nil)), obs := [] } })]
  rets := { acts := [], S := { slots := [4], sh := (.cons (.dat .bool) .nil), obs := [] } }
  K := (List UInt8) × (Int)
  V := Int
  R := (Unit) ⊕ (Unit)
  join := fun k v => ((k.1, (k.2, (v, ()))), ())
  sk := fun t => (t.1.1, t.1.2.1)
  sv := fun t => t.1.2.2.1
  step := S_sp_l12Bytes_0
  leaf := fun k r => .s (Unit) (Unit) r (fun _ => .l (.exit 0 (mkSt ({ slots := [0, 1], sh := (.cons (.dat .str) (.cons (.dat (.int .i64)) .nil)), obs := [] }) ((k.1, (k.2, ())), ())))) (fun _ => .l (.ret (mkSt ({ slots := [4], sh := (.cons (.dat .bool) .nil), obs := [] }) ((false, ()), ()))))

noncomputable def T_sp_l12Bytes (a1_ : List UInt8) (a2_ : Int) : Tr (Bool) :=
  .c ((Unit) ⊕ (Unit)) (L_sp_l12Bytes_0 (a1_, a2_) (0 : Int)) fun r8_ =>
  .s (Unit) (Unit) r8_
    (fun _ => .l (decide (((List.length a1_ : Nat) : Int) ≤ a2_)))
    (fun _ => .l false)

noncomputable def F_sp_l12Bytes (a1_ : List UInt8) (a2_ : Int) : Option (Bool) := (T_sp_l12Bytes a1_ a2_).ev

noncomputable def A_sp_l12Bytes : Sh := (.cons (.dat .str) (.cons (.dat (.int .i64)) .nil))

noncomputable def I_sp_l12Bytes : List (Nat × OSh) := []

noncomputable def K_sp_l12Bytes : RetK := { acts := [], res := [.tmp 4], sh := (.cons (.dat .bool) .nil), obs := [], pins := [] }

noncomputable def D_sp_l12Bytes : FD where
  A := A_sp_l12Bytes
  ins := I_sp_l12Bytes
  lend := []
  R := Bool
  F := fun x => F_sp_l12Bytes x.1.1 x.1.2.1
  emb := fun r => ([.dat .bool r], [])

noncomputable def E_sp_l12Bytes : Env := envOf [(51, D_sp_l1In)]

noncomputable def Z_sp_l12Bytes : Nat → Nat → List Nat := fun _ _ => []

noncomputable def O_sp_l12Bytes : List (Nat × LD) := [(0, DL_sp_l12Bytes_0)]

noncomputable def C_sp_l12Bytes : Code := (f76.body).getD .skip

/-! ### 77 loop.example/g01110/spec.l1Stands -/

noncomputable def S_sp_l1Stands_0 (k : (List UInt8) × (Int)) (v : Int) : Tr ((Int) ⊕ ((Unit) ⊕ (Unit))) :=
  .t (decide (v < ((List.length k.1 : Nat) : Int)))
    (.g (inR v (List.length k.1)) <|
      .t (((UInt8.toNat (List.getD k.1 (Int.toNat v) 0) : Nat) : Int) == k.2)
        (.l (.inr (.inr ())))
        (.l (.inl (IntKind.wrap .i64 (v + (1 : Int))))))
    (.l (.inr (.inl ())))

noncomputable def L_sp_l1Stands_0 (k : (List UInt8) × (Int)) (v : Int) : Option ((Unit) ⊕ (Unit)) := iter (fun v => (S_sp_l1Stands_0 k v).ev) v

noncomputable def DL_sp_l1Stands_0 : LD where
  head := { acts := [], S := { slots := [0, 1, 5], sh := (.cons (.dat .str) (.cons (.dat (.int .u8)) (.cons (.dat (.int .i64)) .nil))), obs := [] } }
  exits := [(0, { acts := [], S := { slots := [], sh := .nil, obs := [] } })]
  rets := { acts := [], S := { slots := [4], sh := (.cons (.dat .bool) .nil), obs := [] } }
  K := (List UInt8) × (Int)
  V := Int
  R := (Unit) ⊕ (Unit)
  join := fun k v => ((k.1, (k.2, (v, ()))), ())
  sk := fun t => (t.1.1, t.1.2.1)
  sv := fun t => t.1.2.2.1
  step := S_sp_l1Stands_0
  leaf := fun _ r => .s (Unit) (Unit) r (fun _ => .l (.exit 0 (mkSt ({ slots := [], sh := .nil, obs := [] }) ((), ())))) (fun _ => .l (.ret (mkSt ({ slots := [4], sh := (.cons (.dat .bool) .nil), obs := [] }) ((true, ()), ()))))

noncomputable def T_sp_l1Stands (a1_ : List UInt8) (a2_ : Int) : Tr (Bool) :=
  .c ((Unit) ⊕ (Unit)) (L_sp_l1Stands_0 (a1_, a2_) (0 : Int)) fun r5_ =>
  .s (Unit) (Unit) r5_
    (fun _ => .l false)
    (fun _ => .l true)

noncomputable def F_sp_l1Stands (a1_ : List UInt8) (a2_ : Int) : Option (Bool) := (T_sp_l1Stands a1_ a2_).ev

noncomputable def A_sp_l1Stands : Sh := (.cons (.dat .str) (.cons (.dat (.int .u8)) .nil))

noncomputable def I_sp_l1Stands : List (Nat × OSh) := []

noncomputable def K_sp_l1Stands : RetK := { acts := [], res := [.tmp 4], sh := (.cons (.dat .bool) .nil), obs := [], pins := [] }

noncomputable def D_sp_l1Stands : FD where
  A := A_sp_l1Stands
  ins := I_sp_l1Stands
  lend := []
  R := Bool
  F := fun x => F_sp_l1Stands x.1.1 x.1.2.1
  emb := fun r => ([.dat .bool r], [])

noncomputable def E_sp_l1Stands : Env := envOf []

noncomputable def Z_sp_l1Stands : Nat → Nat → List Nat := fun _ _ => []

noncomputable def O_sp_l1Stands : List (Nat × LD) := [(0, DL_sp_l1Stands_0)]

noncomputable def C_sp_l1Stands : Code := (f77.body).getD .skip

/-! ### 52 loop.example/g01110/spec.l12Record -/

noncomputable def T_sp_l12Record (a1_ : List UInt8) (a2_ : List UInt8) : Tr (Bool) :=
  .t (!(a1_ == ([] : List UInt8)))
    (.c (Bool) (F_sp_l12Bytes a1_ (160 : Int)) fun r1_ =>
      .t r1_
        (.c (Bool) (F_sp_l1Stands a1_ (64 : Int)) fun r2_ =>
          .t (!r2_)
            (.c (Bool) (F_sp_l12Bytes a2_ (200 : Int)) fun r3_ =>
              .l r3_)
            (.l false))
        (.l false))
    (.l false)

noncomputable def F_sp_l12Record (a1_ : List UInt8) (a2_ : List UInt8) : Option (Bool) := (T_sp_l12Record a1_ a2_).ev

noncomputable def A_sp_l12Record : Sh := (.cons (.agg (.cons (.dat .str) (.cons (.dat .str) .nil))) .nil)

noncomputable def I_sp_l12Record : List (Nat × OSh) := []

noncomputable def K_sp_l12Record : RetK := { acts := [], res := [.tmp 2], sh := (.cons (.dat .bool) .nil), obs := [], pins := [] }

noncomputable def D_sp_l12Record : FD where
  A := A_sp_l12Record
  ins := I_sp_l12Record
  lend := []
  R := Bool
  F := fun x => F_sp_l12Record x.1.1.1 x.1.1.2.1
  emb := fun r => ([.dat .bool r], [])

noncomputable def E_sp_l12Record : Env := envOf [(76, D_sp_l12Bytes), (77, D_sp_l1Stands)]

noncomputable def Z_sp_l12Record : Nat → Nat → List Nat := fun _ _ => []

noncomputable def O_sp_l12Record : List (Nat × LD) := []

noncomputable def C_sp_l12Record : Code := (f52.body).getD .skip

/-! ### 100 loop.example/g01110/spec.l1Sum -/

noncomputable def S_sp_l1Sum_0 (k : List UInt8) (v : (Int) × (Int)) : Tr (((Int) × (Int)) ⊕ (Int)) :=
  .t (decide (v.2 < ((List.length k : Nat) : Int)))
    (.g (inR v.2 (List.length k)) <|
      .g (!decide ((999979 : Int) = 0)) <|
      .l (.inl ((Int.tmod (IntKind.wrap .i64 ((IntKind.wrap .i64 ((IntKind.wrap .i64 ((41 : Int) * v.1)) + (IntKind.wrap .i64 ((UInt8.toNat (List.getD k (Int.toNat v.2) 0) : Nat) : Int)))) + (1 : Int))) (999979 : Int)), (IntKind.wrap .i64 (v.2 + (1 : Int))))))
    (.l (.inr v.1))

noncomputable def L_sp_l1Sum_0 (k : List UInt8) (v : (Int) × (Int)) : Option (Int) := iter (fun v => (S_sp_l1Sum_0 k v).ev) v

noncomputable def DL_sp_l1Sum_0 : LD where
  head := { acts := [], S := { slots := [0, 3, 4], sh := (.cons (.dat .str) (.cons (.dat (.int .i64)) (.cons (.dat (.int .i64)) .nil))), obs := [] } }
  exits := [(0, { acts := [], S := { slots := [3], sh := (.cons (.dat (.int .i64)) .nil), obs := [] } })]
  rets := { acts := [], S := { slots := [], sh := .nil, obs := [] } }
  K := List UInt8
  V := (Int) × (Int)
  R := Int
  join := fun k v => ((k, (v.1, (v.2, ()))), ())
  sk := fun t => t.1.1
  sv := fun t => (t.1.2.1, t.1.2.2.1)
  step := S_sp_l1Sum_0
  leaf := fun _ r => .l (.exit 0 (mkSt ({ slots := [3], sh := (.cons (.dat (.int .i64)) .nil), obs := [] }) ((r, ()), ())))

noncomputable def T_sp_l1Sum (a1_ : List UInt8) : Tr (Int) :=
  .c (Int) (L_sp_l1Sum_0 a1_ ((7 : Int), (0 : Int))) fun r5_ =>
  .l r5_

noncomputable def F_sp_l1Sum (a1_ : List UInt8) : Option (Int) := (T_sp_l1Sum a1_).ev

noncomputable def A_sp_l1Sum : Sh := (.cons (.dat .str) .nil)

noncomputable def I_sp_l1Sum : List (Nat × OSh) := []

noncomputable def K_sp_l1Sum : RetK := { acts := [], res := [.tmp 2], sh := (.cons (.dat (.int .i64)) .nil), obs := [], pins := [] }

noncomputable def D_sp_l1Sum : FD where
  A := A_sp_l1Sum
  ins := I_sp_l1Sum
  lend := []
  R := Int
  F := fun x => F_sp_l1Sum x.1.1
  emb := fun r => ([.dat (.int .i64) r], [])

noncomputable def E_sp_l1Sum : Env := envOf []

noncomputable def Z_sp_l1Sum : Nat → Nat → List Nat := fun _ _ => []

noncomputable def O_sp_l1Sum : List (Nat × LD) := [(0, DL_sp_l1Sum_0)]

noncomputable def C_sp_l1Sum : Code := (f100.body).getD .skip

/-! ### 78 loop.example/g01110/spec.l1Seal -/

noncomputable def T_sp_l1Seal (a1_ : List UInt8) : Tr (List UInt8) :=
  .g (decide (List.length a1_ + List.length ([35] : List UInt8) ≤ 9223372036854775807)) <|
  .c (Int) (F_sp_l1Sum a1_) fun r1_ =>
  .c (List UInt8) (F_sp_l1Num 1000000 r1_) fun r2_ =>
  .g (decide (List.length (a1_ ++ ([35] : List UInt8)) + List.length r2_ ≤ 9223372036854775807)) <|
  .l ((a1_ ++ ([35] : List UInt8)) ++ r2_)

noncomputable def F_sp_l1Seal (a1_ : List UInt8) : Option (List UInt8) := (T_sp_l1Seal a1_).ev

noncomputable def A_sp_l1Seal : Sh := (.cons (.dat .str) .nil)

noncomputable def I_sp_l1Seal : List (Nat × OSh) := []

noncomputable def K_sp_l1Seal : RetK := { acts := [], res := [.tmp 2], sh := (.cons (.dat .str) .nil), obs := [], pins := [] }

noncomputable def D_sp_l1Seal : FD where
  A := A_sp_l1Seal
  ins := I_sp_l1Seal
  lend := []
  R := List UInt8
  F := fun x => F_sp_l1Seal x.1.1
  emb := fun r => ([.dat .str r], [])

noncomputable def E_sp_l1Seal : Env := envOf [(100, D_sp_l1Sum), (79, D_sp_l1Num 1000000)]

noncomputable def Z_sp_l1Seal : Nat → Nat → List Nat := fun _ _ => []

noncomputable def O_sp_l1Seal : List (Nat × LD) := []

noncomputable def C_sp_l1Seal : Code := (f78.body).getD .skip

/-! ### 53 loop.example/g01110/spec.l12Line -/

noncomputable def T_sp_l12Line (a1_ : Int) (a2_ : List UInt8) (a3_ : List UInt8) : Tr (List UInt8) :=
  .c (List UInt8) (F_sp_l1Num 1000000 a1_) fun r1_ =>
  .g (decide (List.length r1_ + List.length ([32] : List UInt8) ≤ 9223372036854775807)) <|
  .g (decide (List.length (r1_ ++ ([32] : List UInt8)) + List.length a2_ ≤ 9223372036854775807)) <|
  .g (decide (List.length ((r1_ ++ ([32] : List UInt8)) ++ a2_) + List.length ([64] : List UInt8) ≤ 9223372036854775807)) <|
  .g (decide (List.length (((r1_ ++ ([32] : List UInt8)) ++ a2_) ++ ([64] : List UInt8)) + List.length a3_ ≤ 9223372036854775807)) <|
  .c (List UInt8) (F_sp_l1Seal ((((r1_ ++ ([32] : List UInt8)) ++ a2_) ++ ([64] : List UInt8)) ++ a3_)) fun r2_ =>
  .g (decide (List.length r2_ + List.length ([10] : List UInt8) ≤ 9223372036854775807)) <|
  .l (r2_ ++ ([10] : List UInt8))

noncomputable def F_sp_l12Line (a1_ : Int) (a2_ : List UInt8) (a3_ : List UInt8) : Option (List UInt8) := (T_sp_l12Line a1_ a2_ a3_).ev

noncomputable def A_sp_l12Line : Sh := (.cons (.dat (.int .i64)) (.cons (.agg (.cons (.dat .str) (.cons (.dat .str) .nil))) .nil))

noncomputable def I_sp_l12Line : List (Nat × OSh) := []

noncomputable def K_sp_l12Line : RetK := { acts := [], res := [.tmp 4], sh := (.cons (.dat .str) .nil), obs := [], pins := [] }

noncomputable def D_sp_l12Line : FD where
  A := A_sp_l12Line
  ins := I_sp_l12Line
  lend := []
  R := List UInt8
  F := fun x => F_sp_l12Line x.1.1 x.1.2.1.1 x.1.2.1.2.1
  emb := fun r => ([.dat .str r], [])

noncomputable def E_sp_l12Line : Env := envOf [(79, D_sp_l1Num 1000000), (78, D_sp_l1Seal)]

noncomputable def Z_sp_l12Line : Nat → Nat → List Nat := fun _ _ => []

noncomputable def O_sp_l12Line : List (Nat × LD) := []

noncomputable def C_sp_l12Line : Code := (f53.body).getD .skip

/-! ### 83 loop.example/g01110/spec.l12Decode -/

noncomputable def T_sp_l12Decode (a1_ : List UInt8) (a2_ : Int) : Tr ((List UInt8) × ((List UInt8) × (Bool))) :=
  .c (List UInt8) (F_sp_l1Num 1000000 a2_) fun r1_ =>
  .g (decide (List.length r1_ + List.length ([32] : List UInt8) ≤ 9223372036854775807)) <|
  .c (List (List UInt8)) (F_sp_l1Split a1_ (35 : Int)) fun r2_ =>
  .g (inR (0 : Int) (List.length r2_)) <|
  .g (decide ((Int.toNat (0 : Int)) < List.length r2_)) <|
  .t (decide (((List.length (List.getD r2_ (Int.toNat (0 : Int)) ([] : List UInt8)) : Nat) : Int) < ((List.length (r1_ ++ ([32] : List UInt8)) : Nat) : Int)))
    (.l (([] : List UInt8), (([] : List UInt8), false)))
    (.g (decide ((0 : Int) ≤ ((List.length (r1_ ++ ([32] : List UInt8)) : Nat) : Int)) && decide (((List.length (r1_ ++ ([32] : List UInt8)) : Nat) : Int) ≤ ((List.length (List.getD r2_ (Int.toNat (0 : Int)) ([] : List UInt8)) : Nat) : Int))) <|
      .t (!((List.drop 0 (List.take (Int.toNat ((List.length (r1_ ++ ([32] : List UInt8)) : Nat) : Int)) (List.getD r2_ (Int.toNat (0 : Int)) ([] : List UInt8)))) == (r1_ ++ ([32] : List UInt8))))
        (.l (([] : List UInt8), (([] : List UInt8), false)))
        (.g (decide ((0 : Int) ≤ ((List.length (r1_ ++ ([32] : List UInt8)) : Nat) : Int)) && decide (((List.length (r1_ ++ ([32] : List UInt8)) : Nat) : Int) ≤ ((List.length (List.getD r2_ (Int.toNat (0 : Int)) ([] : List UInt8)) : Nat) : Int))) <|
          .c (List (List UInt8)) (F_sp_l1Split (List.drop (Int.toNat ((List.length (r1_ ++ ([32] : List UInt8)) : Nat) : Int)) (List.take (List.length (List.getD r2_ (Int.toNat (0 : Int)) ([] : List UInt8))) (List.getD r2_ (Int.toNat (0 : Int)) ([] : List UInt8)))) (64 : Int)) fun r3_ =>
          .g (inR (0 : Int) (List.length r3_)) <|
          .g (decide ((Int.toNat (0 : Int)) < List.length r3_)) <|
          .t (((List.length (List.getD r3_ (Int.toNat (0 : Int)) ([] : List UInt8)) : Nat) : Int) == ((List.length (List.drop (Int.toNat ((List.length (r1_ ++ ([32] : List UInt8)) : Nat) : Int)) (List.take (List.length (List.getD r2_ (Int.toNat (0 : Int)) ([] : List UInt8))) (List.getD r2_ (Int.toNat (0 : Int)) ([] : List UInt8)))) : Nat) : Int))
            (.l (([] : List UInt8), (([] : List UInt8), false)))
            (.g (decide ((0 : Int) ≤ (IntKind.wrap .i64 (((List.length (List.getD r3_ (Int.toNat (0 : Int)) ([] : List UInt8)) : Nat) : Int) + (1 : Int)))) && decide ((IntKind.wrap .i64 (((List.length (List.getD r3_ (Int.toNat (0 : Int)) ([] : List UInt8)) : Nat) : Int) + (1 : Int))) ≤ ((List.length (List.drop (Int.toNat ((List.length (r1_ ++ ([32] : List UInt8)) : Nat) : Int)) (List.take (List.length (List.getD r2_ (Int.toNat (0 : Int)) ([] : List UInt8))) (List.getD r2_ (Int.toNat (0 : Int)) ([] : List UInt8)))) : Nat) : Int))) <|
              .c (Bool) (F_sp_l12Record (List.getD r3_ (Int.toNat (0 : Int)) ([] : List UInt8)) (List.drop (Int.toNat (IntKind.wrap .i64 (((List.length (List.getD r3_ (Int.toNat (0 : Int)) ([] : List UInt8)) : Nat) : Int) + (1 : Int)))) (List.take (List.length (List.drop (Int.toNat ((List.length (r1_ ++ ([32] : List UInt8)) : Nat) : Int)) (List.take (List.length (List.getD r2_ (Int.toNat (0 : Int)) ([] : List UInt8))) (List.getD r2_ (Int.toNat (0 : Int)) ([] : List UInt8))))) (List.drop (Int.toNat ((List.length (r1_ ++ ([32] : List UInt8)) : Nat) : Int)) (List.take (List.length (List.getD r2_ (Int.toNat (0 : Int)) ([] : List UInt8))) (List.getD r2_ (Int.toNat (0 : Int)) ([] : List UInt8))))))) fun r4_ =>
              .t r4_
                (.c (List UInt8) (F_sp_l12Line a2_ (List.getD r3_ (Int.toNat (0 : Int)) ([] : List UInt8)) (List.drop (Int.toNat (IntKind.wrap .i64 (((List.length (List.getD r3_ (Int.toNat (0 : Int)) ([] : List UInt8)) : Nat) : Int) + (1 : Int)))) (List.take (List.length (List.drop (Int.toNat ((List.length (r1_ ++ ([32] : List UInt8)) : Nat) : Int)) (List.take (List.length (List.getD r2_ (Int.toNat (0 : Int)) ([] : List UInt8))) (List.getD r2_ (Int.toNat (0 : Int)) ([] : List UInt8))))) (List.drop (Int.toNat ((List.length (r1_ ++ ([32] : List UInt8)) : Nat) : Int)) (List.take (List.length (List.getD r2_ (Int.toNat (0 : Int)) ([] : List UInt8))) (List.getD r2_ (Int.toNat (0 : Int)) ([] : List UInt8))))))) fun r5_ =>
                  .g (decide (List.length a1_ + List.length ([10] : List UInt8) ≤ 9223372036854775807)) <|
                  .l ((List.getD r3_ (Int.toNat (0 : Int)) ([] : List UInt8)), ((List.drop (Int.toNat (IntKind.wrap .i64 (((List.length (List.getD r3_ (Int.toNat (0 : Int)) ([] : List UInt8)) : Nat) : Int) + (1 : Int)))) (List.take (List.length (List.drop (Int.toNat ((List.length (r1_ ++ ([32] : List UInt8)) : Nat) : Int)) (List.take (List.length (List.getD r2_ (Int.toNat (0 : Int)) ([] : List UInt8))) (List.getD r2_ (Int.toNat (0 : Int)) ([] : List UInt8))))) (List.drop (Int.toNat ((List.length (r1_ ++ ([32] : List UInt8)) : Nat) : Int)) (List.take (List.length (List.getD r2_ (Int.toNat (0 : Int)) ([] : List UInt8))) (List.getD r2_ (Int.toNat (0 : Int)) ([] : List UInt8)))))), (r5_ == (a1_ ++ ([10] : List UInt8))))))
                (.l ((List.getD r3_ (Int.toNat (0 : Int)) ([] : List UInt8)), ((List.drop (Int.toNat (IntKind.wrap .i64 (((List.length (List.getD r3_ (Int.toNat (0 : Int)) ([] : List UInt8)) : Nat) : Int) + (1 : Int)))) (List.take (List.length (List.drop (Int.toNat ((List.length (r1_ ++ ([32] : List UInt8)) : Nat) : Int)) (List.take (List.length (List.getD r2_ (Int.toNat (0 : Int)) ([] : List UInt8))) (List.getD r2_ (Int.toNat (0 : Int)) ([] : List UInt8))))) (List.drop (Int.toNat ((List.length (r1_ ++ ([32] : List UInt8)) : Nat) : Int)) (List.take (List.length (List.getD r2_ (Int.toNat (0 : Int)) ([] : List UInt8))) (List.getD r2_ (Int.toNat (0 : Int)) ([] : List UInt8)))))), false))))))

noncomputable def F_sp_l12Decode (a1_ : List UInt8) (a2_ : Int) : Option ((List UInt8) × ((List UInt8) × (Bool))) := (T_sp_l12Decode a1_ a2_).ev

noncomputable def A_sp_l12Decode : Sh := (.cons (.dat .str) (.cons (.dat (.int .i64)) .nil))

noncomputable def I_sp_l12Decode : List (Nat × OSh) := []

noncomputable def K_sp_l12Decode : RetK := { acts := [], res := [.cell 4 27, .tmp 5], sh := (.cons (.agg (.cons (.dat .str) (.cons (.dat .str) .nil))) (.cons (.dat .bool) .nil)), obs := [], pins := [] }

noncomputable def D_sp_l12Decode : FD where
  A := A_sp_l12Decode
  ins := I_sp_l12Decode
  lend := []
  R := (List UInt8) × ((List UInt8) × (Bool))
  F := fun x => F_sp_l12Decode x.1.1 x.1.2.1
  emb := fun r => ([.agg [.dat .str r.1, .dat .str r.2.1], .dat .bool r.2.2], [])

noncomputable def E_sp_l12Decode : Env := envOf [(79, D_sp_l1Num 1000000), (82, D_sp_l1Split), (52, D_sp_l12Record), (53, D_sp_l12Line)]

noncomputable def Z_sp_l12Decode : Nat → Nat → List Nat := fun _ _ => []

noncomputable def O_sp_l12Decode : List (Nat × LD) := []

noncomputable def C_sp_l12Decode : Code := (f83.body).getD .skip

/-! ### 57 loop.example/g01110/spec.l12Open -/

noncomputable def S_sp_l12Open_0 (k : List UInt8) (v : (Int) × (List ((List UInt8) × (List UInt8)))) : Tr (((Int) × (List ((List UInt8) × (List UInt8)))) ⊕ ((Int) × (List ((List UInt8) × (List UInt8))))) :=
  .t (decide (v.1 < ((List.length k : Nat) : Int)))
    (.t (decide (((List.length v.2 : Nat) : Int) < (60 : Int)))
        (.g (decide ((0 : Int) ≤ v.1) && decide (v.1 ≤ ((List.length k : Nat) : Int))) <|
          .c (List (List UInt8)) (F_sp_l1Split (List.drop (Int.toNat v.1) (List.take (List.length k) k)) (10 : Int)) fun r4_ =>
          .g (inR (0 : Int) (List.length r4_)) <|
          .g (decide ((Int.toNat (0 : Int)) < List.length r4_)) <|
          .c ((List UInt8) × ((List UInt8) × (Bool))) (F_sp_l12Decode (List.getD r4_ (Int.toNat (0 : Int)) ([] : List UInt8)) ((List.length v.2 : Nat) : Int)) fun r5_ =>
          .t (decide (((List.length r4_ : Nat) : Int) < (2 : Int)))
            (.l (.inr (v.1, v.2)))
            (.t (!r5_.2.2)
                (.l (.inr (v.1, v.2)))
                (.g (decide ((List.length v.2 + List.length ([(r5_.1, r5_.2.1)] : List ((List UInt8) × (List UInt8)))) * 32 ≤ 140737488355328)) <|
                  .g (inR (0 : Int) (List.length r4_)) <|
                  .g (decide ((Int.toNat (0 : Int)) < List.length r4_)) <|
                  .l (.inl ((IntKind.wrap .i64 ((IntKind.wrap .i64 (v.1 + ((List.length (List.getD r4_ (Int.toNat (0 : Int)) ([] : List UInt8)) : Nat) : Int))) + (1 : Int))), (v.2 ++ ([(r5_.1, r5_.2.1)] : List ((List UInt8) × (List UInt8)))))))))
        (.l (.inr (v.1, v.2))))
    (.l (.inr (v.1, v.2)))

noncomputable def L_sp_l12Open_0 (k : List UInt8) (v : (Int) × (List ((List UInt8) × (List UInt8)))) : Option ((Int) × (List ((List UInt8) × (List UInt8)))) := iter (fun v => (S_sp_l12Open_0 k v).ev) v

noncomputable def DL_sp_l12Open_0 : LD where
  head := { acts := [], S := { slots := [0, 4, 5], sh := (.cons (.dat .str) (.cons (.arr 9) (.cons (.dat (.int .i64)) .nil))), obs := [(9, .arr 27 (.pair .str .str))] } }
  exits := [(0, { acts := [], S := { slots := [4, 5], sh := (.cons (.arr 9) (.cons (.dat (.int .i64)) .nil)), obs := [(9, .arr 27 (.pair .str .str))] } })]
  rets := { acts := [], S := { slots := [], sh := .nil, obs := [] } }
  K := List UInt8
  V := (Int) × (List ((List UInt8) × (List UInt8)))
  R := (Int) × (List ((List UInt8) × (List UInt8)))
  join := fun k v => ((k, ((), (v.1, ()))), (v.2, ()))
  sk := fun t => t.1.1
  sv := fun t => (t.1.2.2.1, t.2.1)
  step := S_sp_l12Open_0
  leaf := fun _ r => .l (.exit 0 (mkSt ({ slots := [4, 5], sh := (.cons (.arr 9) (.cons (.dat (.int .i64)) .nil)), obs := [(9, .arr 27 (.pair .str .str))] }) (((), (r.1, ())), (r.2, ()))))

noncomputable def T_sp_l12Open (a1_ : List UInt8) : Tr ((Int) × (List ((List UInt8) × (List UInt8)))) :=
  .c ((Int) × (List ((List UInt8) × (List UInt8)))) (L_sp_l12Open_0 a1_ ((0 : Int), ([] : List ((List UInt8) × (List UInt8))))) fun r8_ =>
  .l (r8_.1, r8_.2)

noncomputable def F_sp_l12Open (a1_ : List UInt8) : Option ((Int) × (List ((List UInt8) × (List UInt8)))) := (T_sp_l12Open a1_).ev

noncomputable def A_sp_l12Open : Sh := (.cons (.dat .str) .nil)

noncomputable def I_sp_l12Open : List (Nat × OSh) := []

noncomputable def K_sp_l12Open : RetK := { acts := [.ren 9 0], res := [.tmp 2, .tmp 3], sh := (.cons (.arr 0) (.cons (.dat (.int .i64)) .nil)), obs := [(0, .arr 27 (.pair .str .str))], pins := [] }

noncomputable def D_sp_l12Open : FD where
  A := A_sp_l12Open
  ins := I_sp_l12Open
  lend := []
  R := (Int) × (List ((List UInt8) × (List UInt8)))
  F := fun x => F_sp_l12Open x.1.1
  emb := fun r => ([.arr 0, .dat (.int .i64) r.1], [(0, .arr 27 (.pair .str .str) r.2)])

noncomputable def E_sp_l12Open : Env := envOf [(82, D_sp_l1Split), (83, D_sp_l12Decode)]

noncomputable def Z_sp_l12Open : Nat → Nat → List Nat := fun _ _ => []

noncomputable def O_sp_l12Open : List (Nat × LD) := [(0, DL_sp_l12Open_0)]

noncomputable def C_sp_l12Open : Code := (f57.body).getD .skip

/-! ### 59 loop.example/g01110/spec.l12Valid -/

noncomputable def T_sp_l12Valid (a1_ : List UInt8) (a2_ : List UInt8) (a3_ : Int) : Tr (Bool) :=
  .t (decide ((30000 : Int) < (IntKind.wrap .i64 (((List.length a1_ : Nat) : Int) + ((List.length a2_ : Nat) : Int)))))
    (.l false)
    (.g (decide (List.length a1_ + List.length a2_ ≤ 9223372036854775807)) <|
      .c ((Int) × (List ((List UInt8) × (List UInt8)))) (F_sp_l12Open (a1_ ++ a2_)) fun r1_ =>
      .c ((Int) × (List ((List UInt8) × (List UInt8)))) (F_sp_l12Open a1_) fun r2_ =>
      .t (r1_.1 == (IntKind.wrap .i64 (((List.length a1_ : Nat) : Int) + ((List.length a2_ : Nat) : Int))))
        (.t (r2_.1 == ((List.length a1_ : Nat) : Int))
            (.l (((List.length r1_.2 : Nat) : Int) == a3_))
            (.l false))
        (.l false))

noncomputable def F_sp_l12Valid (a1_ : List UInt8) (a2_ : List UInt8) (a3_ : Int) : Option (Bool) := (T_sp_l12Valid a1_ a2_ a3_).ev

noncomputable def A_sp_l12Valid : Sh := (.cons (.agg (.cons (.dat .str) (.cons (.dat .str) (.cons (.dat (.int .i64)) .nil)))) .nil)

noncomputable def I_sp_l12Valid : List (Nat × OSh) := []

noncomputable def K_sp_l12Valid : RetK := { acts := [], res := [.tmp 2], sh := (.cons (.dat .bool) .nil), obs := [], pins := [] }

noncomputable def D_sp_l12Valid : FD where
  A := A_sp_l12Valid
  ins := I_sp_l12Valid
  lend := []
  R := Bool
  F := fun x => F_sp_l12Valid x.1.1.1 x.1.1.2.1 x.1.1.2.2.1
  emb := fun r => ([.dat .bool r], [])

noncomputable def E_sp_l12Valid : Env := envOf [(57, D_sp_l12Open)]

noncomputable def Z_sp_l12Valid : Nat → Nat → List Nat := fun _ _ => []

noncomputable def O_sp_l12Valid : List (Nat × LD) := []

noncomputable def C_sp_l12Valid : Code := (f59.body).getD .skip

/-! ### 24 loop.example/g01110/spec.CrashLog -/

noncomputable def T_sp_CrashLog (a1_ : List UInt8) (a2_ : List UInt8) (a3_ : Int) (a4_ : Int) (a5_ : Bool) : Tr ((List UInt8) × (Bool)) :=
  .c (Bool) (F_sp_l12Valid a1_ a2_ a3_) fun r1_ =>
  .t (!r1_)
    (.l (([] : List UInt8), false))
    (.c (Bool) (F_sp_l1In a4_ (0 : Int) ((List.length a2_ : Nat) : Int)) fun r2_ =>
      .t (!r2_)
        (.l (([] : List UInt8), false))
        (.g (decide ((0 : Int) ≤ a4_) && decide (a4_ ≤ ((List.length a2_ : Nat) : Int))) <|
          .t a5_
            (.t (decide ((0 : Int) < a4_))
                (.g (inR (IntKind.wrap .i64 (a4_ - (1 : Int))) (List.length (List.map (fun c => ((UInt8.toNat c : Nat) : Int)) (List.drop 0 (List.take (Int.toNat a4_) a2_))))) <|
                  .g (decide ((Int.toNat (IntKind.wrap .i64 (a4_ - (1 : Int)))) < List.length (List.map (fun c => ((UInt8.toNat c : Nat) : Int)) (List.drop 0 (List.take (Int.toNat a4_) a2_))))) <|
                  .g (inR (IntKind.wrap .i64 (a4_ - (1 : Int))) (List.length (List.map (fun c => ((UInt8.toNat c : Nat) : Int)) (List.drop 0 (List.take (Int.toNat a4_) a2_))))) <|
                  .g (decide ((Int.toNat (IntKind.wrap .i64 (a4_ - (1 : Int)))) < List.length (List.map (fun c => ((UInt8.toNat c : Nat) : Int)) (List.drop 0 (List.take (Int.toNat a4_) a2_))))) <|
                  .g (decide (List.length a1_ + List.length (bytesOf (List.set (List.map (fun c => ((UInt8.toNat c : Nat) : Int)) (List.drop 0 (List.take (Int.toNat a4_) a2_))) (Int.toNat (IntKind.wrap .i64 (a4_ - (1 : Int)))) (IntKind.wrap .u8 ((255 : Int) - (List.getD (List.map (fun c => ((UInt8.toNat c : Nat) : Int)) (List.drop 0 (List.take (Int.toNat a4_) a2_))) (Int.toNat (IntKind.wrap .i64 (a4_ - (1 : Int)))) (0 : Int)))))) ≤ 9223372036854775807)) <|
                  .l ((a1_ ++ (bytesOf (List.set (List.map (fun c => ((UInt8.toNat c : Nat) : Int)) (List.drop 0 (List.take (Int.toNat a4_) a2_))) (Int.toNat (IntKind.wrap .i64 (a4_ - (1 : Int)))) (IntKind.wrap .u8 ((255 : Int) - (List.getD (List.map (fun c => ((UInt8.toNat c : Nat) : Int)) (List.drop 0 (List.take (Int.toNat a4_) a2_))) (Int.toNat (IntKind.wrap .i64 (a4_ - (1 : Int)))) (0 : Int))))))), true))
                (.g (decide (List.length a1_ + List.length (bytesOf (List.map (fun c => ((UInt8.toNat c : Nat) : Int)) (List.drop 0 (List.take (Int.toNat a4_) a2_)))) ≤ 9223372036854775807)) <|
                  .l ((a1_ ++ (bytesOf (List.map (fun c => ((UInt8.toNat c : Nat) : Int)) (List.drop 0 (List.take (Int.toNat a4_) a2_))))), true)))
            (.g (decide (List.length a1_ + List.length (bytesOf (List.map (fun c => ((UInt8.toNat c : Nat) : Int)) (List.drop 0 (List.take (Int.toNat a4_) a2_)))) ≤ 9223372036854775807)) <|
              .l ((a1_ ++ (bytesOf (List.map (fun c => ((UInt8.toNat c : Nat) : Int)) (List.drop 0 (List.take (Int.toNat a4_) a2_))))), true))))

noncomputable def F_sp_CrashLog (a1_ : List UInt8) (a2_ : List UInt8) (a3_ : Int) (a4_ : Int) (a5_ : Bool) : Option ((List UInt8) × (Bool)) := (T_sp_CrashLog a1_ a2_ a3_ a4_ a5_).ev

noncomputable def A_sp_CrashLog : Sh := (.cons (.agg (.cons (.dat .str) (.cons (.dat .str) (.cons (.dat (.int .i64)) .nil)))) (.cons (.dat (.int .i64)) (.cons (.dat .bool) .nil)))

noncomputable def I_sp_CrashLog : List (Nat × OSh) := []

noncomputable def K_sp_CrashLog : RetK := { acts := [], res := [.tmp 6, .tmp 7], sh := (.cons (.dat .str) (.cons (.dat .bool) .nil)), obs := [], pins := [] }

noncomputable def D_sp_CrashLog : FD where
  A := A_sp_CrashLog
  ins := I_sp_CrashLog
  lend := []
  R := (List UInt8) × (Bool)
  F := fun x => F_sp_CrashLog x.1.1.1 x.1.1.2.1 x.1.1.2.2.1 x.1.2.1 x.1.2.2.1
  emb := fun r => ([.dat .str r.1, .dat .bool r.2], [])

noncomputable def E_sp_CrashLog : Env := envOf [(59, D_sp_l12Valid), (51, D_sp_l1In)]

noncomputable def Z_sp_CrashLog : Nat → Nat → List Nat := fun _ _ => []

noncomputable def O_sp_CrashLog : List (Nat × LD) := []

noncomputable def C_sp_CrashLog : Code := (f24.body).getD .skip

/-! ### 117 internal/bytealg.IndexByteString -/

noncomputable def F_internal_bytealg_IndexByteString (a1_ : List UInt8) (a2_ : Int) : Option (Int) := some (idxByte a1_ a2_)

noncomputable def D_internal_bytealg_IndexByteString : FD := fdIndexByte

/-! ### 102 internal/stringslite.IndexByte -/

noncomputable def T_internal_stringslite_IndexByte (a1_ : List UInt8) (a2_ : Int) : Tr (Int) :=
  .c (Int) (F_internal_bytealg_IndexByteString a1_ a2_) fun r1_ =>
  .l r1_

noncomputable def F_internal_stringslite_IndexByte (a1_ : List UInt8) (a2_ : Int) : Option (Int) := (T_internal_stringslite_IndexByte a1_ a2_).ev

noncomputable def A_internal_stringslite_IndexByte : Sh := (.cons (.dat .str) (.cons (.dat (.int .u8)) .nil))

noncomputable def I_internal_stringslite_IndexByte : List (Nat × OSh) := []

noncomputable def K_internal_stringslite_IndexByte : RetK := { acts := [], res := [.tmp 4], sh := (.cons (.dat (.int .i64)) .nil), obs := [], pins := [] }

noncomputable def D_internal_stringslite_IndexByte : FD where
  A := A_internal_stringslite_IndexByte
  ins := I_internal_stringslite_IndexByte
  lend := []
  R := Int
  F := fun x => F_internal_stringslite_IndexByte x.1.1 x.1.2.1
  emb := fun r => ([.dat (.int .i64) r], [])

noncomputable def E_internal_stringslite_IndexByte : Env := envOf [(117, D_internal_bytealg_IndexByteString)]

noncomputable def Z_internal_stringslite_IndexByte : Nat → Nat → List Nat := fun _ _ => []

noncomputable def O_internal_stringslite_IndexByte : List (Nat × LD) := []

noncomputable def C_internal_stringslite_IndexByte : Code := (f102.body).getD .skip

/-! ### 84 strings.IndexByte -/

noncomputable def T_strings_IndexByte (a1_ : List UInt8) (a2_ : Int) : Tr (Int) :=
  .c (Int) (F_internal_stringslite_IndexByte a1_ a2_) fun r1_ =>
  .l r1_

noncomputable def F_strings_IndexByte (a1_ : List UInt8) (a2_ : Int) : Option (Int) := (T_strings_IndexByte a1_ a2_).ev

noncomputable def A_strings_IndexByte : Sh := (.cons (.dat .str) (.cons (.dat (.int .u8)) .nil))

noncomputable def I_strings_IndexByte : List (Nat × OSh) := []

noncomputable def K_strings_IndexByte : RetK := { acts := [], res := [.tmp 4], sh := (.cons (.dat (.int .i64)) .nil), obs := [], pins := [] }

noncomputable def D_strings_IndexByte : FD where
  A := A_strings_IndexByte
  ins := I_strings_IndexByte
  lend := []
  R := Int
  F := fun x => F_strings_IndexByte x.1.1 x.1.2.1
  emb := fun r => ([.dat (.int .i64) r], [])

noncomputable def E_strings_IndexByte : Env := envOf [(102, D_internal_stringslite_IndexByte)]

noncomputable def Z_strings_IndexByte : Nat → Nat → List Nat := fun _ _ => []

noncomputable def O_strings_IndexByte : List (Nat × LD) := []

noncomputable def C_strings_IndexByte : Code := (f84.body).getD .skip

/-! ### 104 internal/stringslite.Index -/

noncomputable def T_internal_stringslite_Index (a1_ : List UInt8) (a2_ : List UInt8) : Tr (Int) :=
  .t (((List.length a2_ : Nat) : Int) == (0 : Int))
    (.l (0 : Int))
    (.t (a2_ == a1_)
        (.l (0 : Int))
        (.t (((List.length a2_ : Nat) : Int) == (1 : Int))
            (.g (inR (0 : Int) (List.length a2_)) <|
              .c (Int) (F_internal_stringslite_IndexByte a1_ ((UInt8.toNat (List.getD a2_ (Int.toNat (0 : Int)) 0) : Nat) : Int)) fun r1_ =>
              .l r1_)
            (.g (decide (((List.length a1_ : Nat) : Int) ≤ ((List.length a2_ : Nat) : Int))) <|
              .l (-1 : Int))))

noncomputable def F_internal_stringslite_Index (a1_ : List UInt8) (a2_ : List UInt8) : Option (Int) := (T_internal_stringslite_Index a1_ a2_).ev

noncomputable def A_internal_stringslite_Index : Sh := (.cons (.dat .str) (.cons (.dat .str) .nil))

noncomputable def I_internal_stringslite_Index : List (Nat × OSh) := []

noncomputable def K_internal_stringslite_Index : RetK := { acts := [], res := [.tmp 4], sh := (.cons (.dat (.int .i64)) .nil), obs := [], pins := [] }

noncomputable def D_internal_stringslite_Index : FD where
  A := A_internal_stringslite_Index
  ins := I_internal_stringslite_Index
  lend := []
  R := Int
  F := fun x => F_internal_stringslite_Index x.1.1 x.1.2.1
  emb := fun r => ([.dat (.int .i64) r], [])

noncomputable def E_internal_stringslite_Index : Env := envOf [(102, D_internal_stringslite_IndexByte)]

noncomputable def Z_internal_stringslite_Index : Nat → Nat → List Nat := fun _ _ => []

noncomputable def O_internal_stringslite_Index : List (Nat × LD) := []

noncomputable def C_internal_stringslite_Index : Code := (f104.body).getD .skip

/-! ### 103 internal/stringslite.Cut -/

noncomputable def T_internal_stringslite_Cut (a1_ : List UInt8) (a2_ : List UInt8) : Tr ((List UInt8) × ((List UInt8) × (Bool))) :=
  .c (Int) (F_internal_stringslite_Index a1_ a2_) fun r1_ =>
  .t (decide ((0 : Int) ≤ r1_))
    (.g (decide ((0 : Int) ≤ r1_) && decide (r1_ ≤ ((List.length a1_ : Nat) : Int))) <|
      .g (decide ((0 : Int) ≤ (IntKind.wrap .i64 (r1_ + ((List.length a2_ : Nat) : Int)))) && decide ((IntKind.wrap .i64 (r1_ + ((List.length a2_ : Nat) : Int))) ≤ ((List.length a1_ : Nat) : Int))) <|
      .l ((List.drop 0 (List.take (Int.toNat r1_) a1_)), ((List.drop (Int.toNat (IntKind.wrap .i64 (r1_ + ((List.length a2_ : Nat) : Int)))) (List.take (List.length a1_) a1_)), true)))
    (.l (a1_, (([] : List UInt8), false)))

noncomputable def F_internal_stringslite_Cut (a1_ : List UInt8) (a2_ : List UInt8) : Option ((List UInt8) × ((List UInt8) × (Bool))) := (T_internal_stringslite_Cut a1_ a2_).ev

noncomputable def A_internal_stringslite_Cut : Sh := (.cons (.dat .str) (.cons (.dat .str) .nil))

noncomputable def I_internal_stringslite_Cut : List (Nat × OSh) := []

noncomputable def K_internal_stringslite_Cut : RetK := { acts := [], res := [.tmp 4, .tmp 5, .tmp 6], sh := (.cons (.dat .str) (.cons (.dat .str) (.cons (.dat .bool) .nil))), obs := [], pins := [] }

noncomputable def D_internal_stringslite_Cut : FD where
  A := A_internal_stringslite_Cut
  ins := I_internal_stringslite_Cut
  lend := []
  R := (List UInt8) × ((List UInt8) × (Bool))
  F := fun x => F_internal_stringslite_Cut x.1.1 x.1.2.1
  emb := fun r => ([.dat .str r.1, .dat .str r.2.1, .dat .bool r.2.2], [])

noncomputable def E_internal_stringslite_Cut : Env := envOf [(104, D_internal_stringslite_Index)]

noncomputable def Z_internal_stringslite_Cut : Nat → Nat → List Nat := fun _ _ => []

noncomputable def O_internal_stringslite_Cut : List (Nat × LD) := []

noncomputable def C_internal_stringslite_Cut : Code := (f103.body).getD .skip

/-! ### 86 strings.Cut -/

noncomputable def T_strings_Cut (a1_ : List UInt8) (a2_ : List UInt8) : Tr ((List UInt8) × ((List UInt8) × (Bool))) :=
  .c ((List UInt8) × ((List UInt8) × (Bool))) (F_internal_stringslite_Cut a1_ a2_) fun r1_ =>
  .l (r1_.1, (r1_.2.1, r1_.2.2))

noncomputable def F_strings_Cut (a1_ : List UInt8) (a2_ : List UInt8) : Option ((List UInt8) × ((List UInt8) × (Bool))) := (T_strings_Cut a1_ a2_).ev

noncomputable def A_strings_Cut : Sh := (.cons (.dat .str) (.cons (.dat .str) .nil))

noncomputable def I_strings_Cut : List (Nat × OSh) := []

noncomputable def K_strings_Cut : RetK := { acts := [], res := [.tmp 4, .tmp 5, .tmp 6], sh := (.cons (.dat .str) (.cons (.dat .str) (.cons (.dat .bool) .nil))), obs := [], pins := [] }

noncomputable def D_strings_Cut : FD where
  A := A_strings_Cut
  ins := I_strings_Cut
  lend := []
  R := (List UInt8) × ((List UInt8) × (Bool))
  F := fun x => F_strings_Cut x.1.1 x.1.2.1
  emb := fun r => ([.dat .str r.1, .dat .str r.2.1, .dat .bool r.2.2], [])

noncomputable def E_strings_Cut : Env := envOf [(103, D_internal_stringslite_Cut)]

noncomputable def Z_strings_Cut : Nat → Nat → List Nat := fun _ _ => []

noncomputable def O_strings_Cut : List (Nat × LD) := []

noncomputable def C_strings_Cut : Code := (f86.body).getD .skip

/-! ### 89 strings.Index -/

noncomputable def T_strings_Index (a1_ : List UInt8) (a2_ : List UInt8) : Tr (Int) :=
  .c (Int) (F_internal_stringslite_Index a1_ a2_) fun r1_ =>
  .l r1_

noncomputable def F_strings_Index (a1_ : List UInt8) (a2_ : List UInt8) : Option (Int) := (T_strings_Index a1_ a2_).ev

noncomputable def A_strings_Index : Sh := (.cons (.dat .str) (.cons (.dat .str) .nil))

noncomputable def I_strings_Index : List (Nat × OSh) := []

noncomputable def K_strings_Index : RetK := { acts := [], res := [.tmp 4], sh := (.cons (.dat (.int .i64)) .nil), obs := [], pins := [] }

noncomputable def D_strings_Index : FD where
  A := A_strings_Index
  ins := I_strings_Index
  lend := []
  R := Int
  F := fun x => F_strings_Index x.1.1 x.1.2.1
  emb := fun r => ([.dat (.int .i64) r], [])

noncomputable def E_strings_Index : Env := envOf [(104, D_internal_stringslite_Index)]

noncomputable def Z_strings_Index : Nat → Nat → List Nat := fun _ _ => []

noncomputable def O_strings_Index : List (Nat × LD) := []

noncomputable def C_strings_Index : Code := (f89.body).getD .skip

/-! ### 68 strings.Contains -/

noncomputable def T_strings_Contains (a1_ : List UInt8) (a2_ : List UInt8) : Tr (Bool) :=
  .c (Int) (F_strings_Index a1_ a2_) fun r1_ =>
  .l (decide ((0 : Int) ≤ r1_))

noncomputable def F_strings_Contains (a1_ : List UInt8) (a2_ : List UInt8) : Option (Bool) := (T_strings_Contains a1_ a2_).ev

noncomputable def A_strings_Contains : Sh := (.cons (.dat .str) (.cons (.dat .str) .nil))

noncomputable def I_strings_Contains : List (Nat × OSh) := []

noncomputable def K_strings_Contains : RetK := { acts := [], res := [.tmp 4], sh := (.cons (.dat .bool) .nil), obs := [], pins := [] }

noncomputable def D_strings_Contains : FD where
  A := A_strings_Contains
  ins := I_strings_Contains
  lend := []
  R := Bool
  F := fun x => F_strings_Contains x.1.1 x.1.2.1
  emb := fun r => ([.dat .bool r], [])

noncomputable def E_strings_Contains : Env := envOf [(89, D_strings_Index)]

noncomputable def Z_strings_Contains : Nat → Nat → List Nat := fun _ _ => []

noncomputable def O_strings_Contains : List (Nat × LD) := []

noncomputable def C_strings_Contains : Code := (f68.body).getD .skip

/-! ### 80 loop.example/g01110/impl.checksum -/

noncomputable def S_im_checksum_0 (k : (List UInt8) × (Int)) (v : (Int) × (Int)) : Tr (((Int) × (Int)) ⊕ (Int)) :=
  .t (decide (v.2 < k.2))
    (.g (inR v.2 (List.length k.1)) <|
      .g (!decide ((999979 : Int) = 0)) <|
      .l (.inl ((Int.tmod (IntKind.wrap .i64 ((IntKind.wrap .i64 ((IntKind.wrap .i64 ((41 : Int) * v.1)) + (IntKind.wrap .i64 ((UInt8.toNat (List.getD k.1 (Int.toNat v.2) 0) : Nat) : Int)))) + (1 : Int))) (999979 : Int)), (IntKind.wrap .i64 (v.2 + (1 : Int))))))
    (.l (.inr v.1))

noncomputable def L_im_checksum_0 (k : (List UInt8) × (Int)) (v : (Int) × (Int)) : Option (Int) := iter (fun v => (S_im_checksum_0 k v).ev) v

noncomputable def DL_im_checksum_0 : LD where
  head := { acts := [], S := { slots := [0, 3, 6, 7], sh := (.cons (.dat .str) (.cons (.dat (.int .i64)) (.cons (.dat (.int .i64)) (.cons (.dat (.int .i64)) .nil)))), obs := [] } }
  exits := [(0, { acts := [], S := { slots := [3], sh := (.cons (.dat (.int .i64)) .nil), obs := [] } })]
  rets := { acts := [], S := { slots := [], sh := .nil, obs := [] } }
  K := (List UInt8) × (Int)
  V := (Int) × (Int)
  R := Int
  join := fun k v => ((k.1, (v.1, (k.2, (v.2, ())))), ())
  sk := fun t => (t.1.1, t.1.2.2.1)
  sv := fun t => (t.1.2.1, t.1.2.2.2.1)
  step := S_im_checksum_0
  leaf := fun _ r => .l (.exit 0 (mkSt ({ slots := [3], sh := (.cons (.dat (.int .i64)) .nil), obs := [] }) ((r, ()), ())))

noncomputable def T_im_checksum (a1_ : List UInt8) : Tr (Int) :=
  .c (Int) (L_im_checksum_0 (a1_, ((List.length a1_ : Nat) : Int)) ((7 : Int), (0 : Int))) fun r6_ =>
  .l r6_

noncomputable def F_im_checksum (a1_ : List UInt8) : Option (Int) := (T_im_checksum a1_).ev

noncomputable def A_im_checksum : Sh := (.cons (.dat .str) .nil)

noncomputable def I_im_checksum : List (Nat × OSh) := []

noncomputable def K_im_checksum : RetK := { acts := [], res := [.tmp 2], sh := (.cons (.dat (.int .i64)) .nil), obs := [], pins := [] }

noncomputable def D_im_checksum : FD where
  A := A_im_checksum
  ins := I_im_checksum
  lend := []
  R := Int
  F := fun x => F_im_checksum x.1.1
  emb := fun r => ([.dat (.int .i64) r], [])

noncomputable def E_im_checksum : Env := envOf []

noncomputable def Z_im_checksum : Nat → Nat → List Nat := fun _ _ => []

noncomputable def O_im_checksum : List (Nat × LD) := [(0, DL_im_checksum_0)]

noncomputable def C_im_checksum : Code := (f80.body).getD .skip

/-! ### 56 strconv.Itoa -/

noncomputable def F_strconv_Itoa (a1_ : Int) : Option (List UInt8) := itoaF a1_

noncomputable def D_strconv_Itoa : FD := fdItoa

/-! ### 55 loop.example/g01110/impl.AppendChecksum -/

noncomputable def T_im_AppendChecksum (a1_ : List UInt8) : Tr ((List UInt8) × (Bool)) :=
  .t (decide ((4000 : Int) < ((List.length a1_ : Nat) : Int)))
    (.l (([] : List UInt8), false))
    (.c (Bool) (F_strings_Contains a1_ ([35] : List UInt8)) fun r1_ =>
      .t r1_
        (.l (([] : List UInt8), false))
        (.g (decide (List.length a1_ + List.length ([35] : List UInt8) ≤ 9223372036854775807)) <|
          .c (Int) (F_im_checksum a1_) fun r2_ =>
          .c (List UInt8) (F_strconv_Itoa r2_) fun r3_ =>
          .g (decide (List.length (a1_ ++ ([35] : List UInt8)) + List.length r3_ ≤ 9223372036854775807)) <|
          .t (decide ((4000 : Int) < ((List.length ((a1_ ++ ([35] : List UInt8)) ++ r3_) : Nat) : Int)))
            (.l (([] : List UInt8), false))
            (.l (((a1_ ++ ([35] : List UInt8)) ++ r3_), true))))

noncomputable def F_im_AppendChecksum (a1_ : List UInt8) : Option ((List UInt8) × (Bool)) := (T_im_AppendChecksum a1_).ev

noncomputable def A_im_AppendChecksum : Sh := (.cons (.dat .str) .nil)

noncomputable def I_im_AppendChecksum : List (Nat × OSh) := []

noncomputable def K_im_AppendChecksum : RetK := { acts := [], res := [.tmp 2, .tmp 3], sh := (.cons (.dat .str) (.cons (.dat .bool) .nil)), obs := [], pins := [] }

noncomputable def D_im_AppendChecksum : FD where
  A := A_im_AppendChecksum
  ins := I_im_AppendChecksum
  lend := []
  R := (List UInt8) × (Bool)
  F := fun x => F_im_AppendChecksum x.1.1
  emb := fun r => ([.dat .str r.1, .dat .bool r.2], [])

noncomputable def E_im_AppendChecksum : Env := envOf [(68, D_strings_Contains), (80, D_im_checksum), (56, D_strconv_Itoa)]

noncomputable def Z_im_AppendChecksum : Nat → Nat → List Nat := fun _ _ => []

noncomputable def O_im_AppendChecksum : List (Nat × LD) := []

noncomputable def C_im_AppendChecksum : Code := (f55.body).getD .skip

/-! ### 85 loop.example/g01110/impl.VerifyChecksum -/

noncomputable def T_im_VerifyChecksum (a1_ : List UInt8) : Tr ((List UInt8) × (Bool)) :=
  .c ((List UInt8) × ((List UInt8) × (Bool))) (F_strings_Cut a1_ ([35] : List UInt8)) fun r1_ =>
  .c ((List UInt8) × (Bool)) (F_im_AppendChecksum r1_.1) fun r2_ =>
  .t (!r2_.2)
    (.l (([] : List UInt8), false))
    (.t (!(r2_.1 == a1_))
        (.l (([] : List UInt8), false))
        (.l (r1_.1, true)))

noncomputable def F_im_VerifyChecksum (a1_ : List UInt8) : Option ((List UInt8) × (Bool)) := (T_im_VerifyChecksum a1_).ev

noncomputable def A_im_VerifyChecksum : Sh := (.cons (.dat .str) .nil)

noncomputable def I_im_VerifyChecksum : List (Nat × OSh) := []

noncomputable def K_im_VerifyChecksum : RetK := { acts := [], res := [.tmp 2, .tmp 3], sh := (.cons (.dat .str) (.cons (.dat .bool) .nil)), obs := [], pins := [] }

noncomputable def D_im_VerifyChecksum : FD where
  A := A_im_VerifyChecksum
  ins := I_im_VerifyChecksum
  lend := []
  R := (List UInt8) × (Bool)
  F := fun x => F_im_VerifyChecksum x.1.1
  emb := fun r => ([.dat .str r.1, .dat .bool r.2], [])

noncomputable def E_im_VerifyChecksum : Env := envOf [(86, D_strings_Cut), (55, D_im_AppendChecksum)]

noncomputable def Z_im_VerifyChecksum : Nat → Nat → List Nat := fun _ _ => []

noncomputable def O_im_VerifyChecksum : List (Nat × LD) := []

noncomputable def C_im_VerifyChecksum : Code := (f85.body).getD .skip

/-! ### 54 loop.example/g01110/impl.between -/

noncomputable def T_im_between (a1_ : Int) (a2_ : Int) (a3_ : Int) : Tr (Bool) :=
  .t (decide (a2_ ≤ a1_))
    (.l (decide (a1_ ≤ a3_)))
    (.l false)

noncomputable def F_im_between (a1_ : Int) (a2_ : Int) (a3_ : Int) : Option (Bool) := (T_im_between a1_ a2_ a3_).ev

noncomputable def A_im_between : Sh := (.cons (.dat (.int .i64)) (.cons (.dat (.int .i64)) (.cons (.dat (.int .i64)) .nil)))

noncomputable def I_im_between : List (Nat × OSh) := []

noncomputable def K_im_between : RetK := { acts := [], res := [.tmp 6], sh := (.cons (.dat .bool) .nil), obs := [], pins := [] }

noncomputable def D_im_between : FD where
  A := A_im_between
  ins := I_im_between
  lend := []
  R := Bool
  F := fun x => F_im_between x.1.1 x.1.2.1 x.1.2.2.1
  emb := fun r => ([.dat .bool r], [])

noncomputable def E_im_between : Env := envOf []

noncomputable def Z_im_between : Nat → Nat → List Nat := fun _ _ => []

noncomputable def O_im_between : List (Nat × LD) := []

noncomputable def C_im_between : Code := (f54.body).getD .skip

/-! ### 67 loop.example/g01110/impl.isPlain -/

noncomputable def S_im_isPlain_0 (k : (List UInt8) × ((Int) × (Int))) (v : Int) : Tr ((Int) ⊕ ((Unit) ⊕ (Unit))) :=
  .t (decide (v < k.2.2))
    (.g (inR v (List.length k.1)) <|
      .t (decide (((UInt8.toNat (List.getD k.1 (Int.toNat v) 0) : Nat) : Int) < (32 : Int)))
        (.l (.inr (.inr ())))
        (.g (inR v (List.length k.1)) <|
          .t (decide ((126 : Int) < ((UInt8.toNat (List.getD k.1 (Int.toNat v) 0) : Nat) : Int)))
            (.l (.inr (.inr ())))
            (.g (inR v (List.length k.1)) <|
              .t (((UInt8.toNat (List.getD k.1 (Int.toNat v) 0) : Nat) : Int) == (35 : Int))
                (.l (.inr (.inr ())))
                (.l (.inl (IntKind.wrap .i64 (v + (1 : Int))))))))
    (.l (.inr (.inl ())))

noncomputable def L_im_isPlain_0 (k : (List UInt8) × ((Int) × (Int))) (v : Int) : Option ((Unit) ⊕ (Unit)) := iter (fun v => (S_im_isPlain_0 k v).ev) v

noncomputable def DL_im_isPlain_0 : LD where
  head := { acts := [], S := { slots := [0, 1, 7, 8], sh := (.cons (.dat .str) (.cons (.dat (.int .i64)) (.cons (.dat (.int .i64)) (.cons (.dat (.int .i64)) .nil)))), obs := [] } }
  exits := [(0, { acts := [], S := { slots := [0, 1], sh := (.cons (.dat .str) (.cons (.dat (.int .i64)) .nil)), obs := [] } })]
  rets := { acts := [], S := { slots := [4], sh := (.cons (.dat .bool) .nil), obs := [] } }
  K := (List UInt8) × ((Int) × (Int))
  V := Int
  R := (Unit) ⊕ (Unit)
  join := fun k v => ((k.1, (k.2.1, (k.2.2, (v, ())))), ())
  sk := fun t => (t.1.1, (t.1.2.1, t.1.2.2.1))
  sv := fun t => t.1.2.2.2.1
  step := S_im_isPlain_0
  leaf := fun k r => .s (Unit) (Unit) r (fun _ => .l (.exit 0 (mkSt ({ slots := [0, 1], sh := (.cons (.dat .str) (.cons (.dat (.int .i64)) .nil)), obs := [] }) ((k.1, (k.2.1, ())), ())))) (fun _ => .l (.ret (mkSt ({ slots := [4], sh := (.cons (.dat .bool) .nil), obs := [] }) ((false, ()), ()))))

noncomputable def T_im_isPlain (a1_ : List UInt8) (a2_ : Int) : Tr (Bool) :=
  .c ((Unit) ⊕ (Unit)) (L_im_isPlain_0 (a1_, (a2_, ((List.length a1_ : Nat) : Int))) (0 : Int)) fun r8_ =>
  .s (Unit) (Unit) r8_
    (fun _ => .l (decide (((List.length a1_ : Nat) : Int) ≤ a2_)))
    (fun _ => .l false)

noncomputable def F_im_isPlain (a1_ : List UInt8) (a2_ : Int) : Option (Bool) := (T_im_isPlain a1_ a2_).ev

noncomputable def A_im_isPlain : Sh := (.cons (.dat .str) (.cons (.dat (.int .i64)) .nil))

noncomputable def I_im_isPlain : List (Nat × OSh) := []

noncomputable def K_im_isPlain : RetK := { acts := [], res := [.tmp 4], sh := (.cons (.dat .bool) .nil), obs := [], pins := [] }

noncomputable def D_im_isPlain : FD where
  A := A_im_isPlain
  ins := I_im_isPlain
  lend := []
  R := Bool
  F := fun x => F_im_isPlain x.1.1 x.1.2.1
  emb := fun r => ([.dat .bool r], [])

noncomputable def E_im_isPlain : Env := envOf []

noncomputable def Z_im_isPlain : Nat → Nat → List Nat := fun _ _ => []

noncomputable def O_im_isPlain : List (Nat × LD) := [(0, DL_im_isPlain_0)]

noncomputable def C_im_isPlain : Code := (f67.body).getD .skip

/-! ### 41 loop.example/g01110/impl.IsValidRecord -/

noncomputable def T_im_IsValidRecord (a1_ : List UInt8) (a2_ : List UInt8) : Tr (Bool) :=
  .t (!(a1_ == ([] : List UInt8)))
    (.c (Bool) (F_im_isPlain a1_ (160 : Int)) fun r1_ =>
      .t r1_
        (.c (Bool) (F_im_isPlain a2_ (200 : Int)) fun r2_ =>
          .t r2_
            (.c (Bool) (F_strings_Contains a1_ ([64] : List UInt8)) fun r3_ =>
              .l (!r3_))
            (.l false))
        (.l false))
    (.l false)

noncomputable def F_im_IsValidRecord (a1_ : List UInt8) (a2_ : List UInt8) : Option (Bool) := (T_im_IsValidRecord a1_ a2_).ev

noncomputable def A_im_IsValidRecord : Sh := (.cons (.agg (.cons (.dat .str) (.cons (.dat .str) .nil))) .nil)

noncomputable def I_im_IsValidRecord : List (Nat × OSh) := []

noncomputable def K_im_IsValidRecord : RetK := { acts := [], res := [.tmp 2], sh := (.cons (.dat .bool) .nil), obs := [], pins := [] }

noncomputable def D_im_IsValidRecord : FD where
  A := A_im_IsValidRecord
  ins := I_im_IsValidRecord
  lend := []
  R := Bool
  F := fun x => F_im_IsValidRecord x.1.1.1 x.1.1.2.1
  emb := fun r => ([.dat .bool r], [])

noncomputable def E_im_IsValidRecord : Env := envOf [(67, D_im_isPlain), (68, D_strings_Contains)]

noncomputable def Z_im_IsValidRecord : Nat → Nat → List Nat := fun _ _ => []

noncomputable def O_im_IsValidRecord : List (Nat × LD) := []

noncomputable def C_im_IsValidRecord : Code := (f41.body).getD .skip

/-! ### 16 loop.example/g01110/impl.EncodeRecord -/

noncomputable def T_im_EncodeRecord (a1_ : Int) (a2_ : List UInt8) (a3_ : List UInt8) : Tr ((List UInt8) × (Bool)) :=
  .c (Bool) (F_im_between a1_ (0 : Int) (59 : Int)) fun r1_ =>
  .t (!r1_)
    (.l (([] : List UInt8), false))
    (.c (Bool) (F_im_IsValidRecord a2_ a3_) fun r2_ =>
      .t (!r2_)
        (.l (([] : List UInt8), false))
        (.c (List UInt8) (F_strconv_Itoa a1_) fun r3_ =>
          .g (decide (List.length r3_ + List.length ([32] : List UInt8) ≤ 9223372036854775807)) <|
          .g (decide (List.length (r3_ ++ ([32] : List UInt8)) + List.length a2_ ≤ 9223372036854775807)) <|
          .g (decide (List.length ((r3_ ++ ([32] : List UInt8)) ++ a2_) + List.length ([64] : List UInt8) ≤ 9223372036854775807)) <|
          .g (decide (List.length (((r3_ ++ ([32] : List UInt8)) ++ a2_) ++ ([64] : List UInt8)) + List.length a3_ ≤ 9223372036854775807)) <|
          .c ((List UInt8) × (Bool)) (F_im_AppendChecksum ((((r3_ ++ ([32] : List UInt8)) ++ a2_) ++ ([64] : List UInt8)) ++ a3_)) fun r4_ =>
          .g (decide (List.length r4_.1 + List.length ([10] : List UInt8) ≤ 9223372036854775807)) <|
          .l ((r4_.1 ++ ([10] : List UInt8)), r4_.2)))

noncomputable def F_im_EncodeRecord (a1_ : Int) (a2_ : List UInt8) (a3_ : List UInt8) : Option ((List UInt8) × (Bool)) := (T_im_EncodeRecord a1_ a2_ a3_).ev

noncomputable def A_im_EncodeRecord : Sh := (.cons (.dat (.int .i64)) (.cons (.agg (.cons (.dat .str) (.cons (.dat .str) .nil))) .nil))

noncomputable def I_im_EncodeRecord : List (Nat × OSh) := []

noncomputable def K_im_EncodeRecord : RetK := { acts := [], res := [.tmp 4, .tmp 5], sh := (.cons (.dat .str) (.cons (.dat .bool) .nil)), obs := [], pins := [] }

noncomputable def D_im_EncodeRecord : FD where
  A := A_im_EncodeRecord
  ins := I_im_EncodeRecord
  lend := []
  R := (List UInt8) × (Bool)
  F := fun x => F_im_EncodeRecord x.1.1 x.1.2.1.1 x.1.2.1.2.1
  emb := fun r => ([.dat .str r.1, .dat .bool r.2], [])

noncomputable def E_im_EncodeRecord : Env := envOf [(54, D_im_between), (41, D_im_IsValidRecord), (56, D_strconv_Itoa), (55, D_im_AppendChecksum)]

noncomputable def Z_im_EncodeRecord : Nat → Nat → List Nat := fun _ _ => []

noncomputable def O_im_EncodeRecord : List (Nat × LD) := []

noncomputable def C_im_EncodeRecord : Code := (f16.body).getD .skip

/-! ### 58 loop.example/g01110/impl.readRecords -/

noncomputable def S_im_readRecords_0 (k : List UInt8) (v : (Int) × (List ((List UInt8) × (List UInt8)))) : Tr (((Int) × (List ((List UInt8) × (List UInt8)))) ⊕ ((Int) × (List ((List UInt8) × (List UInt8))))) :=
  .g (decide ((0 : Int) ≤ v.1) && decide (v.1 ≤ ((List.length k : Nat) : Int))) <|
  .c (Int) (F_strings_IndexByte (List.drop (Int.toNat v.1) (List.take (List.length k) k)) (10 : Int)) fun r4_ =>
  .t (decide (r4_ < (0 : Int)))
    (.l (.inr (v.1, v.2)))
    (.g (decide ((0 : Int) ≤ v.1) && decide (v.1 ≤ (IntKind.wrap .i64 ((IntKind.wrap .i64 (v.1 + r4_)) + (1 : Int)))) && decide ((IntKind.wrap .i64 ((IntKind.wrap .i64 (v.1 + r4_)) + (1 : Int))) ≤ ((List.length k : Nat) : Int))) <|
      .g (decide ((0 : Int) ≤ r4_) && decide (r4_ ≤ ((List.length (List.drop (Int.toNat v.1) (List.take (Int.toNat (IntKind.wrap .i64 ((IntKind.wrap .i64 (v.1 + r4_)) + (1 : Int)))) k)) : Nat) : Int))) <|
      .c ((List UInt8) × (Bool)) (F_im_VerifyChecksum (List.drop 0 (List.take (Int.toNat r4_) (List.drop (Int.toNat v.1) (List.take (Int.toNat (IntKind.wrap .i64 ((IntKind.wrap .i64 (v.1 + r4_)) + (1 : Int)))) k))))) fun r5_ =>
      .c ((List UInt8) × ((List UInt8) × (Bool))) (F_strings_Cut r5_.1 ([32] : List UInt8)) fun r6_ =>
      .c ((List UInt8) × ((List UInt8) × (Bool))) (F_strings_Cut r6_.2.1 ([64] : List UInt8)) fun r7_ =>
      .c ((List UInt8) × (Bool)) (F_im_EncodeRecord ((List.length v.2 : Nat) : Int) r7_.1 r7_.2.1) fun r8_ =>
      .t (!r8_.2)
        (.l (.inr (v.1, v.2)))
        (.t (!(r8_.1 == (List.drop (Int.toNat v.1) (List.take (Int.toNat (IntKind.wrap .i64 ((IntKind.wrap .i64 (v.1 + r4_)) + (1 : Int)))) k))))
            (.l (.inr (v.1, v.2)))
            (.g (decide ((List.length v.2 + List.length ([(r7_.1, r7_.2.1)] : List ((List UInt8) × (List UInt8)))) * 32 ≤ 140737488355328)) <|
              .l (.inl ((IntKind.wrap .i64 ((IntKind.wrap .i64 (v.1 + r4_)) + (1 : Int))), (v.2 ++ ([(r7_.1, r7_.2.1)] : List ((List UInt8) × (List UInt8)))))))))

noncomputable def L_im_readRecords_0 (k : List UInt8) (v : (Int) × (List ((List UInt8) × (List UInt8)))) : Option ((Int) × (List ((List UInt8) × (List UInt8)))) := iter (fun v => (S_im_readRecords_0 k v).ev) v

noncomputable def DL_im_readRecords_0 : LD where
  head := { acts := [], S := { slots := [0, 4, 5], sh := (.cons (.dat .str) (.cons (.arr 19) (.cons (.dat (.int .i64)) .nil))), obs := [(19, .arr 27 (.pair .str .str))] } }
  exits := []
  rets := { acts := [], S := { slots := [2, 3], sh := (.cons (.arr 19) (.cons (.dat (.int .i64)) .nil)), obs := [(19, .arr 27 (.pair .str .str))] } }
  K := List UInt8
  V := (Int) × (List ((List UInt8) × (List UInt8)))
  R := (Int) × (List ((List UInt8) × (List UInt8)))
  join := fun k v => ((k, ((), (v.1, ()))), (v.2, ()))
  sk := fun t => t.1.1
  sv := fun t => (t.1.2.2.1, t.2.1)
  step := S_im_readRecords_0
  leaf := fun _ r => .l (.ret (mkSt ({ slots := [2, 3], sh := (.cons (.arr 19) (.cons (.dat (.int .i64)) .nil)), obs := [(19, .arr 27 (.pair .str .str))] }) (((), (r.1, ())), (r.2, ()))))

noncomputable def T_im_readRecords (a1_ : List UInt8) : Tr ((Int) × (List ((List UInt8) × (List UInt8)))) :=
  .c ((Int) × (List ((List UInt8) × (List UInt8)))) (L_im_readRecords_0 a1_ ((0 : Int), ([] : List ((List UInt8) × (List UInt8))))) fun r11_ =>
  .l (r11_.1, r11_.2)

noncomputable def F_im_readRecords (a1_ : List UInt8) : Option ((Int) × (List ((List UInt8) × (List UInt8)))) := (T_im_readRecords a1_).ev

noncomputable def A_im_readRecords : Sh := (.cons (.dat .str) .nil)

noncomputable def I_im_readRecords : List (Nat × OSh) := []

noncomputable def K_im_readRecords : RetK := { acts := [.ren 19 0], res := [.tmp 2, .tmp 3], sh := (.cons (.arr 0) (.cons (.dat (.int .i64)) .nil)), obs := [(0, .arr 27 (.pair .str .str))], pins := [] }

noncomputable def D_im_readRecords : FD where
  A := A_im_readRecords
  ins := I_im_readRecords
  lend := []
  R := (Int) × (List ((List UInt8) × (List UInt8)))
  F := fun x => F_im_readRecords x.1.1
  emb := fun r => ([.arr 0, .dat (.int .i64) r.1], [(0, .arr 27 (.pair .str .str) r.2)])

noncomputable def E_im_readRecords : Env := envOf [(84, D_strings_IndexByte), (85, D_im_VerifyChecksum), (86, D_strings_Cut), (16, D_im_EncodeRecord)]

noncomputable def Z_im_readRecords : Nat → Nat → List Nat := fun _ _ => []

noncomputable def O_im_readRecords : List (Nat × LD) := [(0, DL_im_readRecords_0)]

noncomputable def C_im_readRecords : Code := (f58.body).getD .skip

/-! ### 23 loop.example/g01110/impl.IsValidLog -/

noncomputable def T_im_IsValidLog (a1_ : List UInt8) (a2_ : List UInt8) (a3_ : Int) : Tr (Bool) :=
  .g (decide (List.length a1_ + List.length a2_ ≤ 9223372036854775807)) <|
  .t (decide ((30000 : Int) < ((List.length (a1_ ++ a2_) : Nat) : Int)))
    (.l false)
    (.c ((Int) × (List ((List UInt8) × (List UInt8)))) (F_im_readRecords (a1_ ++ a2_)) fun r1_ =>
      .c ((Int) × (List ((List UInt8) × (List UInt8)))) (F_im_readRecords a1_) fun r2_ =>
      .t (r1_.1 == ((List.length (a1_ ++ a2_) : Nat) : Int))
        (.t (r2_.1 == ((List.length a1_ : Nat) : Int))
            (.l (a3_ == ((List.length r1_.2 : Nat) : Int)))
            (.l false))
        (.l false))

noncomputable def F_im_IsValidLog (a1_ : List UInt8) (a2_ : List UInt8) (a3_ : Int) : Option (Bool) := (T_im_IsValidLog a1_ a2_ a3_).ev

noncomputable def A_im_IsValidLog : Sh := (.cons (.agg (.cons (.dat .str) (.cons (.dat .str) (.cons (.dat (.int .i64)) .nil)))) .nil)

noncomputable def I_im_IsValidLog : List (Nat × OSh) := []

noncomputable def K_im_IsValidLog : RetK := { acts := [], res := [.tmp 2], sh := (.cons (.dat .bool) .nil), obs := [], pins := [] }

noncomputable def D_im_IsValidLog : FD where
  A := A_im_IsValidLog
  ins := I_im_IsValidLog
  lend := []
  R := Bool
  F := fun x => F_im_IsValidLog x.1.1.1 x.1.1.2.1 x.1.1.2.2.1
  emb := fun r => ([.dat .bool r], [])

noncomputable def E_im_IsValidLog : Env := envOf [(58, D_im_readRecords)]

noncomputable def Z_im_IsValidLog : Nat → Nat → List Nat := fun _ _ => []

noncomputable def O_im_IsValidLog : List (Nat × LD) := []

noncomputable def C_im_IsValidLog : Code := (f23.body).getD .skip

/-! ### 25 loop.example/g01110/impl.CrashLog -/

noncomputable def T_im_CrashLog (a1_ : List UInt8) (a2_ : List UInt8) (a3_ : Int) (a4_ : Int) (a5_ : Bool) : Tr ((List UInt8) × (Bool)) :=
  .c (Bool) (F_im_IsValidLog a1_ a2_ a3_) fun r1_ =>
  .t (!r1_)
    (.l (([] : List UInt8), false))
    (.c (Bool) (F_im_between a4_ (0 : Int) ((List.length a2_ : Nat) : Int)) fun r2_ =>
      .t (!r2_)
        (.l (([] : List UInt8), false))
        (.g (decide ((0 : Int) ≤ a4_) && decide (a4_ ≤ ((List.length a2_ : Nat) : Int))) <|
          .g (decide (List.length a1_ + List.length (List.drop 0 (List.take (Int.toNat a4_) a2_)) ≤ 9223372036854775807)) <|
          .t a5_
            (.t (decide ((0 : Int) < a4_))
                (.g (inR (IntKind.wrap .i64 (((List.length (List.map (fun c => ((UInt8.toNat c : Nat) : Int)) (a1_ ++ (List.drop 0 (List.take (Int.toNat a4_) a2_)))) : Nat) : Int) - (1 : Int))) (List.length (List.map (fun c => ((UInt8.toNat c : Nat) : Int)) (a1_ ++ (List.drop 0 (List.take (Int.toNat a4_) a2_)))))) <|
                  .g (decide ((Int.toNat (IntKind.wrap .i64 (((List.length (List.map (fun c => ((UInt8.toNat c : Nat) : Int)) (a1_ ++ (List.drop 0 (List.take (Int.toNat a4_) a2_)))) : Nat) : Int) - (1 : Int)))) < List.length (List.map (fun c => ((UInt8.toNat c : Nat) : Int)) (a1_ ++ (List.drop 0 (List.take (Int.toNat a4_) a2_)))))) <|
                  .g (inR (IntKind.wrap .i64 (((List.length (List.map (fun c => ((UInt8.toNat c : Nat) : Int)) (a1_ ++ (List.drop 0 (List.take (Int.toNat a4_) a2_)))) : Nat) : Int) - (1 : Int))) (List.length (List.map (fun c => ((UInt8.toNat c : Nat) : Int)) (a1_ ++ (List.drop 0 (List.take (Int.toNat a4_) a2_)))))) <|
                  .g (decide ((Int.toNat (IntKind.wrap .i64 (((List.length (List.map (fun c => ((UInt8.toNat c : Nat) : Int)) (a1_ ++ (List.drop 0 (List.take (Int.toNat a4_) a2_)))) : Nat) : Int) - (1 : Int)))) < List.length (List.map (fun c => ((UInt8.toNat c : Nat) : Int)) (a1_ ++ (List.drop 0 (List.take (Int.toNat a4_) a2_)))))) <|
                  .l ((bytesOf (List.set (List.map (fun c => ((UInt8.toNat c : Nat) : Int)) (a1_ ++ (List.drop 0 (List.take (Int.toNat a4_) a2_)))) (Int.toNat (IntKind.wrap .i64 (((List.length (List.map (fun c => ((UInt8.toNat c : Nat) : Int)) (a1_ ++ (List.drop 0 (List.take (Int.toNat a4_) a2_)))) : Nat) : Int) - (1 : Int)))) (IntKind.wrap .u8 ((255 : Int) - (List.getD (List.map (fun c => ((UInt8.toNat c : Nat) : Int)) (a1_ ++ (List.drop 0 (List.take (Int.toNat a4_) a2_)))) (Int.toNat (IntKind.wrap .i64 (((List.length (List.map (fun c => ((UInt8.toNat c : Nat) : Int)) (a1_ ++ (List.drop 0 (List.take (Int.toNat a4_) a2_)))) : Nat) : Int) - (1 : Int)))) (0 : Int)))))), true))
                (.l ((bytesOf (List.map (fun c => ((UInt8.toNat c : Nat) : Int)) (a1_ ++ (List.drop 0 (List.take (Int.toNat a4_) a2_))))), true)))
            (.l ((bytesOf (List.map (fun c => ((UInt8.toNat c : Nat) : Int)) (a1_ ++ (List.drop 0 (List.take (Int.toNat a4_) a2_))))), true))))

noncomputable def F_im_CrashLog (a1_ : List UInt8) (a2_ : List UInt8) (a3_ : Int) (a4_ : Int) (a5_ : Bool) : Option ((List UInt8) × (Bool)) := (T_im_CrashLog a1_ a2_ a3_ a4_ a5_).ev

noncomputable def A_im_CrashLog : Sh := (.cons (.agg (.cons (.dat .str) (.cons (.dat .str) (.cons (.dat (.int .i64)) .nil)))) (.cons (.dat (.int .i64)) (.cons (.dat .bool) .nil)))

noncomputable def I_im_CrashLog : List (Nat × OSh) := []

noncomputable def K_im_CrashLog : RetK := { acts := [], res := [.tmp 6, .tmp 7], sh := (.cons (.dat .str) (.cons (.dat .bool) .nil)), obs := [], pins := [] }

noncomputable def D_im_CrashLog : FD where
  A := A_im_CrashLog
  ins := I_im_CrashLog
  lend := []
  R := (List UInt8) × (Bool)
  F := fun x => F_im_CrashLog x.1.1.1 x.1.1.2.1 x.1.1.2.2.1 x.1.2.1 x.1.2.2.1
  emb := fun r => ([.dat .str r.1, .dat .bool r.2], [])

noncomputable def E_im_CrashLog : Env := envOf [(23, D_im_IsValidLog), (54, D_im_between)]

noncomputable def Z_im_CrashLog : Nat → Nat → List Nat := fun _ _ => []

noncomputable def O_im_CrashLog : List (Nat × LD) := []

noncomputable def C_im_CrashLog : Code := (f25.body).getD .skip

/-! ### 6 loop.example/g01110/laws.FnExactCrashLog -/

noncomputable def T_lw_FnExactCrashLog (a1_ : List UInt8) (a2_ : List UInt8) (a3_ : Int) (a4_ : Int) (a5_ : Bool) : Tr (Bool) :=
  .c (Int) (F_lw_szLog a1_ a2_ a3_ (1048576 : Int)) fun r1_ =>
  .t (decide (r1_ < (0 : Int)))
    (.l true)
    (.c ((List UInt8) × ((List UInt8) × (Int))) (F_lw_toLog a1_ a2_ a3_) fun r2_ =>
      .c ((List UInt8) × (Bool)) (F_sp_CrashLog r2_.1 r2_.2.1 r2_.2.2 a4_ a5_) fun r3_ =>
      .c ((List UInt8) × ((List UInt8) × (Int))) (F_lw_toLog a1_ a2_ a3_) fun r4_ =>
      .c ((List UInt8) × (Bool)) (F_im_CrashLog r4_.1 r4_.2.1 r4_.2.2 a4_ a5_) fun r5_ =>
      .t (!(r5_.1 == r3_.1))
        (.l false)
        (.t (!(r5_.2 == r3_.2))
            (.l false)
            (.l true)))

noncomputable def F_lw_FnExactCrashLog (a1_ : List UInt8) (a2_ : List UInt8) (a3_ : Int) (a4_ : Int) (a5_ : Bool) : Option (Bool) := (T_lw_FnExactCrashLog a1_ a2_ a3_ a4_ a5_).ev

noncomputable def A_lw_FnExactCrashLog : Sh := (.cons (.agg (.cons (.dat .str) (.cons (.dat .str) (.cons (.dat (.int .i64)) .nil)))) (.cons (.dat (.int .i64)) (.cons (.dat .bool) .nil)))

noncomputable def I_lw_FnExactCrashLog : List (Nat × OSh) := []

noncomputable def K_lw_FnExactCrashLog : RetK := { acts := [], res := [.tmp 6], sh := (.cons (.dat .bool) .nil), obs := [], pins := [] }

noncomputable def D_lw_FnExactCrashLog : FD where
  A := A_lw_FnExactCrashLog
  ins := I_lw_FnExactCrashLog
  lend := []
  R := Bool
  F := fun x => F_lw_FnExactCrashLog x.1.1.1 x.1.1.2.1 x.1.1.2.2.1 x.1.2.1 x.1.2.2.1
  emb := fun r => ([.dat .bool r], [])

noncomputable def E_lw_FnExactCrashLog : Env := envOf [(20, D_lw_szLog), (22, D_lw_toLog), (24, D_sp_CrashLog), (25, D_im_CrashLog)]

noncomputable def Z_lw_FnExactCrashLog : Nat → Nat → List Nat := fun _ _ => []

noncomputable def O_lw_FnExactCrashLog : List (Nat × LD) := []

noncomputable def C_lw_FnExactCrashLog : Code := (f6.body).getD .skip

/-! ### 35 loop.example/g01110/laws.vBig -/

noncomputable def T_lw_vBig (a1_ : List (Int)) : Tr (Bool) :=
  .l (decide ((65536 : Int) < ((List.length a1_ : Nat) : Int)))

noncomputable def F_lw_vBig (a1_ : List (Int)) : Option (Bool) := (T_lw_vBig a1_).ev

noncomputable def A_lw_vBig : Sh := (.cons (.dat (.slice (.int .u8))) .nil)

noncomputable def I_lw_vBig : List (Nat × OSh) := []

noncomputable def K_lw_vBig : RetK := { acts := [], res := [.tmp 2], sh := (.cons (.dat .bool) .nil), obs := [], pins := [] }

noncomputable def D_lw_vBig : FD where
  A := A_lw_vBig
  ins := I_lw_vBig
  lend := []
  R := Bool
  F := fun x => F_lw_vBig x.1.1
  emb := fun r => ([.dat .bool r], [])

noncomputable def E_lw_vBig : Env := envOf []

noncomputable def Z_lw_vBig : Nat → Nat → List Nat := fun _ _ => []

noncomputable def O_lw_vBig : List (Nat × LD) := []

noncomputable def C_lw_vBig : Code := (f35.body).getD .skip

/-! ### 88 (*loop.example/g01110/spec.l1Cur).next -/

noncomputable def T_sp_l1Cur_next (a1_ : List (Int)) (a2_ : Int) (a3_ : Int) : Tr ((Int) × ((List (Int)) × ((Int) × (Int)))) :=
  .t (decide (a2_ < ((List.length a1_ : Nat) : Int)))
    (.g (inR a2_ (List.length a1_)) <|
      .t (decide ((IntKind.wrap .i64 (a2_ + (1 : Int))) ≤ ((List.length a1_ : Nat) : Int)))
        (.l ((IntKind.wrap .i64 (List.getD a1_ (Int.toNat a2_) (0 : Int))), (a1_, ((IntKind.wrap .i64 (a2_ + (1 : Int))), (IntKind.wrap .u64 ((IntKind.wrap .u64 ((IntKind.wrap .u64 (a3_ * (6364136223846793005 : Int))) + (IntKind.wrap .u64 (IntKind.wrap .i64 (List.getD a1_ (Int.toNat a2_) (0 : Int)))))) + (462197 : Int)))))))
        (.g (decide ((0 : Int) ≤ (40 : Int))) <|
          .l ((IntKind.wrap .i64 (IntKind.wrap .u64 (BitVec.toNat ((BitVec.ofInt (IntKind.bits .u64) (Int.fdiv (IntKind.wrap .u64 ((IntKind.wrap .u64 ((IntKind.wrap .u64 (a3_ * (6364136223846793005 : Int))) + (IntKind.wrap .u64 (IntKind.wrap .i64 (List.getD a1_ (Int.toNat a2_) (0 : Int)))))) + (462197 : Int))) (2 ^ (min (Int.toNat (40 : Int)) (IntKind.bits .u64))))) &&& (BitVec.ofInt (IntKind.bits .u64) (255 : Int)))))), (a1_, ((IntKind.wrap .i64 (a2_ + (1 : Int))), (IntKind.wrap .u64 ((IntKind.wrap .u64 ((IntKind.wrap .u64 (a3_ * (6364136223846793005 : Int))) + (IntKind.wrap .u64 (IntKind.wrap .i64 (List.getD a1_ (Int.toNat a2_) (0 : Int)))))) + (462197 : Int))))))))
    (.t (decide ((IntKind.wrap .i64 (a2_ + (1 : Int))) ≤ ((List.length a1_ : Nat) : Int)))
        (.l ((0 : Int), (a1_, ((IntKind.wrap .i64 (a2_ + (1 : Int))), (IntKind.wrap .u64 ((IntKind.wrap .u64 ((IntKind.wrap .u64 (a3_ * (6364136223846793005 : Int))) + (IntKind.wrap .u64 (0 : Int)))) + (462197 : Int)))))))
        (.g (decide ((0 : Int) ≤ (40 : Int))) <|
          .l ((IntKind.wrap .i64 (IntKind.wrap .u64 (BitVec.toNat ((BitVec.ofInt (IntKind.bits .u64) (Int.fdiv (IntKind.wrap .u64 ((IntKind.wrap .u64 ((IntKind.wrap .u64 (a3_ * (6364136223846793005 : Int))) + (IntKind.wrap .u64 (0 : Int)))) + (462197 : Int))) (2 ^ (min (Int.toNat (40 : Int)) (IntKind.bits .u64))))) &&& (BitVec.ofInt (IntKind.bits .u64) (255 : Int)))))), (a1_, ((IntKind.wrap .i64 (a2_ + (1 : Int))), (IntKind.wrap .u64 ((IntKind.wrap .u64 ((IntKind.wrap .u64 (a3_ * (6364136223846793005 : Int))) + (IntKind.wrap .u64 (0 : Int)))) + (462197 : Int))))))))

noncomputable def F_sp_l1Cur_next (a1_ : List (Int)) (a2_ : Int) (a3_ : Int) : Option ((Int) × ((List (Int)) × ((Int) × (Int)))) := (T_sp_l1Cur_next a1_ a2_ a3_).ev

noncomputable def A_sp_l1Cur_next : Sh := (.cons (.box 64 0) .nil)

noncomputable def I_sp_l1Cur_next : List (Nat × OSh) := [(64, .cells (.cons (.dat (.slice (.int .u8))) (.cons (.dat (.int .i64)) (.cons (.dat (.int .u64)) .nil))))]

noncomputable def K_sp_l1Cur_next : RetK := { acts := [], res := [.tmp 2], sh := (.cons (.dat (.int .i64)) .nil), obs := [(64, .cells (.cons (.dat (.slice (.int .u8))) (.cons (.dat (.int .i64)) (.cons (.dat (.int .u64)) .nil))))], pins := [(0, 64)] }

noncomputable def D_sp_l1Cur_next : FD where
  A := A_sp_l1Cur_next
  ins := I_sp_l1Cur_next
  lend := [.arg 0]
  R := (Int) × ((List (Int)) × ((Int) × (Int)))
  F := fun x => F_sp_l1Cur_next x.2.1.1 x.2.1.2.1 x.2.1.2.2.1
  emb := fun r => ([.dat (.int .i64) r.1], [(64, .cells [.dat (.slice (.int .u8)) r.2.1, .dat (.int .i64) r.2.2.1, .dat (.int .u64) r.2.2.2])])

noncomputable def E_sp_l1Cur_next : Env := envOf []

noncomputable def Z_sp_l1Cur_next : Nat → Nat → List Nat := fun _ _ => []

noncomputable def O_sp_l1Cur_next : List (Nat × LD) := []

noncomputable def C_sp_l1Cur_next : Code := (f88.body).getD .skip

/-! ### 66 (*loop.example/g01110/spec.l1Cur).pick -/

noncomputable def T_sp_l1Cur_pick (a4_ : Int) (a1_ : List (Int)) (a2_ : Int) (a3_ : Int) : Tr ((Int) × ((List (Int)) × ((Int) × (Int)))) :=
  .t (decide (a4_ ≤ (1 : Int)))
    (.l ((0 : Int), (a1_, (a2_, a3_))))
    (.c ((Int) × ((List (Int)) × ((Int) × (Int)))) (F_sp_l1Cur_next a1_ a2_ a3_) fun r1_ =>
      .t (decide ((200 : Int) < a4_))
        (.c ((Int) × ((List (Int)) × ((Int) × (Int)))) (F_sp_l1Cur_next r1_.2.1 r1_.2.2.1 r1_.2.2.2) fun r2_ =>
          .g (!decide (a4_ = 0)) <|
          .l ((Int.tmod (IntKind.wrap .i64 ((IntKind.wrap .i64 (r1_.1 * (256 : Int))) + r2_.1)) a4_), (r2_.2.1, (r2_.2.2.1, r2_.2.2.2))))
        (.g (!decide (a4_ = 0)) <|
          .l ((Int.tmod r1_.1 a4_), (r1_.2.1, (r1_.2.2.1, r1_.2.2.2)))))

noncomputable def F_sp_l1Cur_pick (a4_ : Int) (a1_ : List (Int)) (a2_ : Int) (a3_ : Int) : Option ((Int) × ((List (Int)) × ((Int) × (Int)))) := (T_sp_l1Cur_pick a4_ a1_ a2_ a3_).ev

noncomputable def A_sp_l1Cur_pick : Sh := (.cons (.box 64 0) (.cons (.dat (.int .i64)) .nil))

noncomputable def I_sp_l1Cur_pick : List (Nat × OSh) := [(64, .cells (.cons (.dat (.slice (.int .u8))) (.cons (.dat (.int .i64)) (.cons (.dat (.int .u64)) .nil))))]

noncomputable def K_sp_l1Cur_pick : RetK := { acts := [], res := [.tmp 4], sh := (.cons (.dat (.int .i64)) .nil), obs := [(64, .cells (.cons (.dat (.slice (.int .u8))) (.cons (.dat (.int .i64)) (.cons (.dat (.int .u64)) .nil))))], pins := [(0, 64)] }

noncomputable def D_sp_l1Cur_pick : FD where
  A := A_sp_l1Cur_pick
  ins := I_sp_l1Cur_pick
  lend := [.arg 0]
  R := (Int) × ((List (Int)) × ((Int) × (Int)))
  F := fun x => F_sp_l1Cur_pick x.1.2.1 x.2.1.1 x.2.1.2.1 x.2.1.2.2.1
  emb := fun r => ([.dat (.int .i64) r.1], [(64, .cells [.dat (.slice (.int .u8)) r.2.1, .dat (.int .i64) r.2.2.1, .dat (.int .u64) r.2.2.2])])

noncomputable def E_sp_l1Cur_pick : Env := envOf [(88, D_sp_l1Cur_next)]

noncomputable def Z_sp_l1Cur_pick : Nat → Nat → List Nat := fun _ _ => []

noncomputable def O_sp_l1Cur_pick : List (Nat × LD) := []

noncomputable def C_sp_l1Cur_pick : Code := (f66.body).getD .skip

/-! ### 87 (*loop.example/g01110/spec.l1Cur).of -/

noncomputable def T_sp_l1Cur_of (a4_ : List (List UInt8)) (a1_ : List (Int)) (a2_ : Int) (a3_ : Int) : Tr ((List UInt8) × ((List (Int)) × ((Int) × (Int)))) :=
  .c ((Int) × ((List (Int)) × ((Int) × (Int)))) (F_sp_l1Cur_pick ((List.length a4_ : Nat) : Int) a1_ a2_ a3_) fun r1_ =>
  .g (inR r1_.1 (List.length a4_)) <|
  .l ((List.getD a4_ (Int.toNat r1_.1) ([] : List UInt8)), (r1_.2.1, (r1_.2.2.1, r1_.2.2.2)))

noncomputable def F_sp_l1Cur_of (a4_ : List (List UInt8)) (a1_ : List (Int)) (a2_ : Int) (a3_ : Int) : Option ((List UInt8) × ((List (Int)) × ((Int) × (Int)))) := (T_sp_l1Cur_of a4_ a1_ a2_ a3_).ev

noncomputable def A_sp_l1Cur_of : Sh := (.cons (.box 64 0) (.cons (.dat (.slice .str)) .nil))

noncomputable def I_sp_l1Cur_of : List (Nat × OSh) := [(64, .cells (.cons (.dat (.slice (.int .u8))) (.cons (.dat (.int .i64)) (.cons (.dat (.int .u64)) .nil))))]

noncomputable def K_sp_l1Cur_of : RetK := { acts := [], res := [.tmp 4], sh := (.cons (.dat .str) .nil), obs := [(64, .cells (.cons (.dat (.slice (.int .u8))) (.cons (.dat (.int .i64)) (.cons (.dat (.int .u64)) .nil))))], pins := [(0, 64)] }

noncomputable def D_sp_l1Cur_of : FD where
  A := A_sp_l1Cur_of
  ins := I_sp_l1Cur_of
  lend := [.arg 0]
  R := (List UInt8) × ((List (Int)) × ((Int) × (Int)))
  F := fun x => F_sp_l1Cur_of x.1.2.1 x.2.1.1 x.2.1.2.1 x.2.1.2.2.1
  emb := fun r => ([.dat .str r.1], [(64, .cells [.dat (.slice (.int .u8)) r.2.1, .dat (.int .i64) r.2.2.1, .dat (.int .u64) r.2.2.2])])

noncomputable def E_sp_l1Cur_of : Env := envOf [(66, D_sp_l1Cur_pick)]

noncomputable def Z_sp_l1Cur_of : Nat → Nat → List Nat := fun _ _ => []

noncomputable def O_sp_l1Cur_of : List (Nat × LD) := []

noncomputable def C_sp_l1Cur_of : Code := (f87.body).getD .skip

/-! ### 62 (*loop.example/g01110/spec.l1Cur).logRecord -/

noncomputable def T_sp_l1Cur_logRecord (a1_ : List (Int)) (a2_ : Int) (a3_ : Int) : Tr ((List UInt8) × ((List UInt8) × ((List (Int)) × ((Int) × (Int))))) :=
  .c ((List UInt8) × ((List (Int)) × ((Int) × (Int)))) (F_sp_l1Cur_of ([([102, 105, 101, 108, 100] : List UInt8), ([111, 112, 101, 110, 32, 48] : List UInt8), ([120] : List UInt8), ([99, 111, 115, 116, 32, 49, 32, 50] : List UInt8), ([48, 32, 49] : List UInt8)] : List (List UInt8)) a1_ a2_ a3_) fun r1_ =>
  .c ((List UInt8) × ((List (Int)) × ((Int) × (Int)))) (F_sp_l1Cur_of ([([] : List UInt8), ([51] : List UInt8), ([63] : List UInt8), ([97, 64, 98] : List UInt8), ([51, 32, 49, 32, 50] : List UInt8)] : List (List UInt8)) r1_.2.1 r1_.2.2.1 r1_.2.2.2) fun r2_ =>
  .c ((Int) × ((List (Int)) × ((Int) × (Int)))) (F_sp_l1Cur_pick (24 : Int) r2_.2.1 r2_.2.2.1 r2_.2.2.2) fun r3_ =>
  .t (r3_.1 == (0 : Int))
    (.g (decide ((0 : Int) ≤ (3 : Int)) && decide ((3 : Int) ≤ (3 : Int)) && decide (((1 : Nat) : Int) * (3 : Int) ≤ 281474976710656)) <|
      .c ((List UInt8) × ((List (Int)) × ((Int) × (Int)))) (F_sp_l1Cur_of ([([] : List UInt8), ([97, 64, 98] : List UInt8), ([97, 35] : List UInt8), ([10] : List UInt8), (bytesOf (List.replicate (Int.toNat (3 : Int)) (0 : Int)))] : List (List UInt8)) r3_.2.1 r3_.2.2.1 r3_.2.2.2) fun r4_ =>
      .l (r4_.1, (r2_.1, (r4_.2.1, (r4_.2.2.1, r4_.2.2.2)))))
    (.t (r3_.1 == (1 : Int))
        (.c ((List UInt8) × ((List (Int)) × ((Int) × (Int)))) (F_sp_l1Cur_of ([([35] : List UInt8), ([10] : List UInt8), ([127] : List UInt8)] : List (List UInt8)) r3_.2.1 r3_.2.2.1 r3_.2.2.2) fun r5_ =>
          .l (r1_.1, (r5_.1, (r5_.2.1, (r5_.2.2.1, r5_.2.2.2)))))
        (.l (r1_.1, (r2_.1, (r3_.2.1, (r3_.2.2.1, r3_.2.2.2))))))

noncomputable def F_sp_l1Cur_logRecord (a1_ : List (Int)) (a2_ : Int) (a3_ : Int) : Option ((List UInt8) × ((List UInt8) × ((List (Int)) × ((Int) × (Int))))) := (T_sp_l1Cur_logRecord a1_ a2_ a3_).ev

noncomputable def A_sp_l1Cur_logRecord : Sh := (.cons (.box 64 0) .nil)

noncomputable def I_sp_l1Cur_logRecord : List (Nat × OSh) := [(64, .cells (.cons (.dat (.slice (.int .u8))) (.cons (.dat (.int .i64)) (.cons (.dat (.int .u64)) .nil))))]

noncomputable def K_sp_l1Cur_logRecord : RetK := { acts := [], res := [.cell 2 27], sh := (.cons (.agg (.cons (.dat .str) (.cons (.dat .str) .nil))) .nil), obs := [(64, .cells (.cons (.dat (.slice (.int .u8))) (.cons (.dat (.int .i64)) (.cons (.dat (.int .u64)) .nil))))], pins := [(0, 64)] }

noncomputable def D_sp_l1Cur_logRecord : FD where
  A := A_sp_l1Cur_logRecord
  ins := I_sp_l1Cur_logRecord
  lend := [.arg 0]
  R := (List UInt8) × ((List UInt8) × ((List (Int)) × ((Int) × (Int))))
  F := fun x => F_sp_l1Cur_logRecord x.2.1.1 x.2.1.2.1 x.2.1.2.2.1
  emb := fun r => ([.agg [.dat .str r.1, .dat .str r.2.1]], [(64, .cells [.dat (.slice (.int .u8)) r.2.2.1, .dat (.int .i64) r.2.2.2.1, .dat (.int .u64) r.2.2.2.2])])

noncomputable def E_sp_l1Cur_logRecord : Env := envOf [(87, D_sp_l1Cur_of), (66, D_sp_l1Cur_pick)]

noncomputable def Z_sp_l1Cur_logRecord : Nat → Nat → List Nat := fun r i => match look [(1, [(2, [5]), (5, [8])]), (4, [(4, [18])]), (6, [(2, [24])])] r with
  | some l => (look l i).getD []
  | none => []

noncomputable def O_sp_l1Cur_logRecord : List (Nat × LD) := []

noncomputable def C_sp_l1Cur_logRecord : Code := (f62.body).getD .skip

/-! ### 28 loop.example/g01110/spec.AppendRecord -/

noncomputable def T_sp_AppendRecord (a1_ : List UInt8) (a2_ : List UInt8) (a3_ : Int) (a4_ : List UInt8) (a5_ : List UInt8) : Tr ((List UInt8) × ((List UInt8) × ((Int) × (Int)))) :=
  .c (Bool) (F_sp_l12Valid a1_ a2_ a3_) fun r1_ =>
  .t (!r1_)
    (.l (a1_, (a2_, (a3_, (1 : Int)))))
    (.c (Bool) (F_sp_l12Record a4_ a5_) fun r2_ =>
      .t (!r2_)
        (.l (a1_, (a2_, (a3_, (1 : Int)))))
        (.t (a3_ == (60 : Int))
            (.l (a1_, (a2_, (a3_, (2 : Int)))))
            (.c (List UInt8) (F_sp_l12Line a3_ a4_ a5_) fun r3_ =>
              .g (decide (List.length a2_ + List.length r3_ ≤ 9223372036854775807)) <|
              .l (a1_, ((a2_ ++ r3_), ((IntKind.wrap .i64 (a3_ + (1 : Int))), (0 : Int)))))))

noncomputable def F_sp_AppendRecord (a1_ : List UInt8) (a2_ : List UInt8) (a3_ : Int) (a4_ : List UInt8) (a5_ : List UInt8) : Option ((List UInt8) × ((List UInt8) × ((Int) × (Int)))) := (T_sp_AppendRecord a1_ a2_ a3_ a4_ a5_).ev

noncomputable def A_sp_AppendRecord : Sh := (.cons (.agg (.cons (.dat .str) (.cons (.dat .str) (.cons (.dat (.int .i64)) .nil)))) (.cons (.agg (.cons (.dat .str) (.cons (.dat .str) .nil))) .nil))

noncomputable def I_sp_AppendRecord : List (Nat × OSh) := []

noncomputable def K_sp_AppendRecord : RetK := { acts := [], res := [.cell 4 31, .tmp 5], sh := (.cons (.agg (.cons (.dat .str) (.cons (.dat .str) (.cons (.dat (.int .i64)) .nil)))) (.cons (.dat (.int .i64)) .nil)), obs := [], pins := [] }

noncomputable def D_sp_AppendRecord : FD where
  A := A_sp_AppendRecord
  ins := I_sp_AppendRecord
  lend := []
  R := (List UInt8) × ((List UInt8) × ((Int) × (Int)))
  F := fun x => F_sp_AppendRecord x.1.1.1 x.1.1.2.1 x.1.1.2.2.1 x.1.2.1.1 x.1.2.1.2.1
  emb := fun r => ([.agg [.dat .str r.1, .dat .str r.2.1, .dat (.int .i64) r.2.2.1], .dat (.int .i64) r.2.2.2], [])

noncomputable def E_sp_AppendRecord : Env := envOf [(59, D_sp_l12Valid), (52, D_sp_l12Record), (53, D_sp_l12Line)]

noncomputable def Z_sp_AppendRecord : Nat → Nat → List Nat := fun _ _ => []

noncomputable def O_sp_AppendRecord : List (Nat × LD) := []

noncomputable def C_sp_AppendRecord : Code := (f28.body).getD .skip

/-! ### 65 (*loop.example/g01110/spec.l1Cur).one -/

noncomputable def T_sp_l1Cur_one (a4_ : Int) (a1_ : List (Int)) (a2_ : Int) (a3_ : Int) : Tr ((Bool) × ((List (Int)) × ((Int) × (Int)))) :=
  .c ((Int) × ((List (Int)) × ((Int) × (Int)))) (F_sp_l1Cur_pick a4_ a1_ a2_ a3_) fun r1_ =>
  .l ((r1_.1 == (0 : Int)), (r1_.2.1, (r1_.2.2.1, r1_.2.2.2)))

noncomputable def F_sp_l1Cur_one (a4_ : Int) (a1_ : List (Int)) (a2_ : Int) (a3_ : Int) : Option ((Bool) × ((List (Int)) × ((Int) × (Int)))) := (T_sp_l1Cur_one a4_ a1_ a2_ a3_).ev

noncomputable def A_sp_l1Cur_one : Sh := (.cons (.box 64 0) (.cons (.dat (.int .i64)) .nil))

noncomputable def I_sp_l1Cur_one : List (Nat × OSh) := [(64, .cells (.cons (.dat (.slice (.int .u8))) (.cons (.dat (.int .i64)) (.cons (.dat (.int .u64)) .nil))))]

noncomputable def K_sp_l1Cur_one : RetK := { acts := [], res := [.tmp 4], sh := (.cons (.dat .bool) .nil), obs := [(64, .cells (.cons (.dat (.slice (.int .u8))) (.cons (.dat (.int .i64)) (.cons (.dat (.int .u64)) .nil))))], pins := [(0, 64)] }

noncomputable def D_sp_l1Cur_one : FD where
  A := A_sp_l1Cur_one
  ins := I_sp_l1Cur_one
  lend := [.arg 0]
  R := (Bool) × ((List (Int)) × ((Int) × (Int)))
  F := fun x => F_sp_l1Cur_one x.1.2.1 x.2.1.1 x.2.1.2.1 x.2.1.2.2.1
  emb := fun r => ([.dat .bool r.1], [(64, .cells [.dat (.slice (.int .u8)) r.2.1, .dat (.int .i64) r.2.2.1, .dat (.int .u64) r.2.2.2])])

noncomputable def E_sp_l1Cur_one : Env := envOf [(66, D_sp_l1Cur_pick)]

noncomputable def Z_sp_l1Cur_one : Nat → Nat → List Nat := fun _ _ => []

noncomputable def O_sp_l1Cur_one : List (Nat × LD) := []

noncomputable def C_sp_l1Cur_one : Code := (f65.body).getD .skip

/-! ### 26 loop.example/g01110/spec.SyncLog -/

noncomputable def T_sp_SyncLog (a1_ : List UInt8) (a2_ : List UInt8) (a3_ : Int) : Tr ((List UInt8) × ((List UInt8) × ((Int) × (Bool)))) :=
  .c (Bool) (F_sp_l12Valid a1_ a2_ a3_) fun r1_ =>
  .t (!r1_)
    (.l (([] : List UInt8), (([] : List UInt8), ((0 : Int), false))))
    (.g (decide (List.length a1_ + List.length a2_ ≤ 9223372036854775807)) <|
      .l ((a1_ ++ a2_), (([] : List UInt8), (a3_, true))))

noncomputable def F_sp_SyncLog (a1_ : List UInt8) (a2_ : List UInt8) (a3_ : Int) : Option ((List UInt8) × ((List UInt8) × ((Int) × (Bool)))) := (T_sp_SyncLog a1_ a2_ a3_).ev

noncomputable def A_sp_SyncLog : Sh := (.cons (.agg (.cons (.dat .str) (.cons (.dat .str) (.cons (.dat (.int .i64)) .nil)))) .nil)

noncomputable def I_sp_SyncLog : List (Nat × OSh) := []

noncomputable def K_sp_SyncLog : RetK := { acts := [], res := [.cell 2 31, .tmp 3], sh := (.cons (.agg (.cons (.dat .str) (.cons (.dat .str) (.cons (.dat (.int .i64)) .nil)))) (.cons (.dat .bool) .nil)), obs := [], pins := [] }

noncomputable def D_sp_SyncLog : FD where
  A := A_sp_SyncLog
  ins := I_sp_SyncLog
  lend := []
  R := (List UInt8) × ((List UInt8) × ((Int) × (Bool)))
  F := fun x => F_sp_SyncLog x.1.1.1 x.1.1.2.1 x.1.1.2.2.1
  emb := fun r => ([.agg [.dat .str r.1, .dat .str r.2.1, .dat (.int .i64) r.2.2.1], .dat .bool r.2.2.2], [])

noncomputable def E_sp_SyncLog : Env := envOf [(59, D_sp_l12Valid)]

noncomputable def Z_sp_SyncLog : Nat → Nat → List Nat := fun _ _ => []

noncomputable def O_sp_SyncLog : List (Nat × LD) := []

noncomputable def C_sp_SyncLog : Code := (f26.body).getD .skip

/-! ### 69 (*loop.example/g01110/spec.l1Cur).log12 -/

noncomputable def S_sp_l1Cur_log12_0 (_k : (List UInt8) × ((List UInt8) × (Int))) (v : (Int) × ((List (Int)) × ((Int) × ((Int) × ((List UInt8) × ((List UInt8) × (Int))))))) : Tr (((Int) × ((List (Int)) × ((Int) × ((Int) × ((List UInt8) × ((List UInt8) × (Int))))))) ⊕ ((List (Int)) × ((Int) × ((Int) × ((List UInt8) × ((List UInt8) × (Int))))))) :=
  .t (decide ((0 : Int) < v.1))
    (.c ((List UInt8) × ((List UInt8) × ((List (Int)) × ((Int) × (Int))))) (F_sp_l1Cur_logRecord v.2.1 v.2.2.1 v.2.2.2.1) fun r12_ =>
      .c ((List UInt8) × ((List UInt8) × ((Int) × (Int)))) (F_sp_AppendRecord v.2.2.2.2.1 v.2.2.2.2.2.1 v.2.2.2.2.2.2 r12_.1 r12_.2.1) fun r13_ =>
      .c ((Bool) × ((List (Int)) × ((Int) × (Int)))) (F_sp_l1Cur_one (4 : Int) r12_.2.2.1 r12_.2.2.2.1 r12_.2.2.2.2) fun r14_ =>
      .t r14_.1
        (.c ((List UInt8) × ((List UInt8) × ((Int) × (Bool)))) (F_sp_SyncLog r13_.1 r13_.2.1 r13_.2.2.1) fun r15_ =>
          .l (.inl ((IntKind.wrap .i64 (v.1 - (1 : Int))), (r14_.2.1, (r14_.2.2.1, (r14_.2.2.2, (r15_.1, (r15_.2.1, r15_.2.2.1))))))))
        (.l (.inl ((IntKind.wrap .i64 (v.1 - (1 : Int))), (r14_.2.1, (r14_.2.2.1, (r14_.2.2.2, (r13_.1, (r13_.2.1, r13_.2.2.1)))))))))
    (.l (.inr (v.2.1, (v.2.2.1, (v.2.2.2.1, (v.2.2.2.2.1, (v.2.2.2.2.2.1, v.2.2.2.2.2.2)))))))

noncomputable def L_sp_l1Cur_log12_0 (k : (List UInt8) × ((List UInt8) × (Int))) (v : (Int) × ((List (Int)) × ((Int) × ((Int) × ((List UInt8) × ((List UInt8) × (Int))))))) : Option ((List (Int)) × ((Int) × ((Int) × ((List UInt8) × ((List UInt8) × (Int)))))) := iter (fun v => (S_sp_l1Cur_log12_0 k v).ev) v

noncomputable def DL_sp_l1Cur_log12_0 : LD where
  head := { acts := [], S := { slots := [0, 2, 3, 4], sh := (.cons (.box 64 0) (.cons (.box 2 0) (.cons (.box 3 0) (.cons (.dat (.int .i64)) .nil)))), obs := [(64, .cells (.cons (.dat (.slice (.int .u8))) (.cons (.dat (.int .i64)) (.cons (.dat (.int .u64)) .nil)))), (2, .cells (.cons (.dat .str) (.cons (.dat .str) (.cons (.dat (.int .i64)) .nil)))), (3, .cells (.cons (.dat .str) (.cons (.dat .str) (.cons (.dat (.int .i64)) .nil))))] } }
  exits := [(0, { acts := [], S := { slots := [0, 2, 3], sh := (.cons (.box 64 0) (.cons (.box 2 0) (.cons (.box 3 0) .nil))), obs := [(64, .cells (.cons (.dat (.slice (.int .u8))) (.cons (.dat (.int .i64)) (.cons (.dat (.int .u64)) .nil)))), (2, .cells (.cons (.dat .str) (.cons (.dat .str) (.cons (.dat (.int .i64)) .nil)))), (3, .cells (.cons (.dat .str) (.cons (.dat .str) (.cons (.dat (.int .i64)) .nil))))] } })]
  rets := { acts := [], S := { slots := [], sh := .nil, obs := [] } }
  K := (List UInt8) × ((List UInt8) × (Int))
  V := (Int) × ((List (Int)) × ((Int) × ((Int) × ((List UInt8) × ((List UInt8) × (Int))))))
  R := (List (Int)) × ((Int) × ((Int) × ((List UInt8) × ((List UInt8) × (Int)))))
  join := fun k v => (((), ((), ((), (v.1, ())))), ((v.2.1, (v.2.2.1, (v.2.2.2.1, ()))), ((k.1, (k.2.1, (k.2.2, ()))), ((v.2.2.2.2.1, (v.2.2.2.2.2.1, (v.2.2.2.2.2.2, ()))), ()))))
  sk := fun t => (t.2.2.1.1, (t.2.2.1.2.1, t.2.2.1.2.2.1))
  sv := fun t => (t.1.2.2.2.1, (t.2.1.1, (t.2.1.2.1, (t.2.1.2.2.1, (t.2.2.2.1.1, (t.2.2.2.1.2.1, t.2.2.2.1.2.2.1))))))
  step := S_sp_l1Cur_log12_0
  leaf := fun k r => .l (.exit 0 (mkSt ({ slots := [0, 2, 3], sh := (.cons (.box 64 0) (.cons (.box 2 0) (.cons (.box 3 0) .nil))), obs := [(64, .cells (.cons (.dat (.slice (.int .u8))) (.cons (.dat (.int .i64)) (.cons (.dat (.int .u64)) .nil)))), (2, .cells (.cons (.dat .str) (.cons (.dat .str) (.cons (.dat (.int .i64)) .nil)))), (3, .cells (.cons (.dat .str) (.cons (.dat .str) (.cons (.dat (.int .i64)) .nil))))] }) (((), ((), ((), ()))), ((r.1, (r.2.1, (r.2.2.1, ()))), ((k.1, (k.2.1, (k.2.2, ()))), ((r.2.2.2.1, (r.2.2.2.2.1, (r.2.2.2.2.2, ()))), ()))))))

noncomputable def T_sp_l1Cur_log12 (a1_ : List (Int)) (a2_ : Int) (a3_ : Int) : Tr ((List UInt8) × ((List UInt8) × ((Int) × ((List (Int)) × ((Int) × (Int)))))) :=
  .c ((Int) × ((List (Int)) × ((Int) × (Int)))) (F_sp_l1Cur_pick (7 : Int) a1_ a2_ a3_) fun r1_ =>
  .c ((List (Int)) × ((Int) × ((Int) × ((List UInt8) × ((List UInt8) × (Int)))))) (L_sp_l1Cur_log12_0 (([] : List UInt8), (([] : List UInt8), (0 : Int))) (r1_.1, (r1_.2.1, (r1_.2.2.1, (r1_.2.2.2, (([] : List UInt8), (([] : List UInt8), (0 : Int)))))))) fun r25_ =>
  .l (r25_.2.2.2.1, (r25_.2.2.2.2.1, (r25_.2.2.2.2.2, (r25_.1, (r25_.2.1, r25_.2.2.1)))))

noncomputable def F_sp_l1Cur_log12 (a1_ : List (Int)) (a2_ : Int) (a3_ : Int) : Option ((List UInt8) × ((List UInt8) × ((Int) × ((List (Int)) × ((Int) × (Int)))))) := (T_sp_l1Cur_log12 a1_ a2_ a3_).ev

noncomputable def A_sp_l1Cur_log12 : Sh := (.cons (.box 64 0) .nil)

noncomputable def I_sp_l1Cur_log12 : List (Nat × OSh) := [(64, .cells (.cons (.dat (.slice (.int .u8))) (.cons (.dat (.int .i64)) (.cons (.dat (.int .u64)) .nil))))]

noncomputable def K_sp_l1Cur_log12 : RetK := { acts := [], res := [.cell 2 31], sh := (.cons (.agg (.cons (.dat .str) (.cons (.dat .str) (.cons (.dat (.int .i64)) .nil)))) .nil), obs := [(64, .cells (.cons (.dat (.slice (.int .u8))) (.cons (.dat (.int .i64)) (.cons (.dat (.int .u64)) .nil))))], pins := [(0, 64)] }

noncomputable def D_sp_l1Cur_log12 : FD where
  A := A_sp_l1Cur_log12
  ins := I_sp_l1Cur_log12
  lend := [.arg 0]
  R := (List UInt8) × ((List UInt8) × ((Int) × ((List (Int)) × ((Int) × (Int)))))
  F := fun x => F_sp_l1Cur_log12 x.2.1.1 x.2.1.2.1 x.2.1.2.2.1
  emb := fun r => ([.agg [.dat .str r.1, .dat .str r.2.1, .dat (.int .i64) r.2.2.1]], [(64, .cells [.dat (.slice (.int .u8)) r.2.2.2.1, .dat (.int .i64) r.2.2.2.2.1, .dat (.int .u64) r.2.2.2.2.2])])

noncomputable def E_sp_l1Cur_log12 : Env := envOf [(66, D_sp_l1Cur_pick), (62, D_sp_l1Cur_logRecord), (28, D_sp_AppendRecord), (65, D_sp_l1Cur_one), (26, D_sp_SyncLog)]

noncomputable def Z_sp_l1Cur_log12 : Nat → Nat → List Nat := fun _ _ => []

noncomputable def O_sp_l1Cur_log12 : List (Nat × LD) := [(0, DL_sp_l1Cur_log12_0)]

noncomputable def C_sp_l1Cur_log12 : Code := (f69.body).getD .skip

/-! ### 70 (*loop.example/g01110/spec.l1Cur).spoilt -/

noncomputable def T_sp_l1Cur_spoilt (a4_ : List UInt8) (a5_ : List UInt8) (a1_ : List (Int)) (a2_ : Int) (a3_ : Int) : Tr ((List UInt8) × ((List (Int)) × ((Int) × (Int)))) :=
  .t (a4_ == ([] : List UInt8))
    (.g (decide ((0 : Int) ≤ (1 : Int)) && decide ((1 : Int) ≤ ((List.length a5_ : Nat) : Int))) <|
      .l ((List.drop 0 (List.take (Int.toNat (1 : Int)) a5_)), (a1_, (a2_, a3_))))
    (.c ((Int) × ((List (Int)) × ((Int) × (Int)))) (F_sp_l1Cur_pick ((List.length a4_ : Nat) : Int) a1_ a2_ a3_) fun r1_ =>
      .c ((Int) × ((List (Int)) × ((Int) × (Int)))) (F_sp_l1Cur_pick ((List.length a5_ : Nat) : Int) r1_.2.1 r1_.2.2.1 r1_.2.2.2) fun r2_ =>
      .g (decide ((0 : Int) ≤ r2_.1) && decide (r2_.1 ≤ ((List.length a5_ : Nat) : Int))) <|
      .g (decide ((0 : Int) ≤ (1 : Int)) && decide ((1 : Int) ≤ ((List.length (List.drop (Int.toNat r2_.1) (List.take (List.length a5_) a5_)) : Nat) : Int))) <|
      .c ((Int) × ((List (Int)) × ((Int) × (Int)))) (F_sp_l1Cur_pick (3 : Int) r2_.2.1 r2_.2.2.1 r2_.2.2.2) fun r3_ =>
      .t (r3_.1 == (0 : Int))
        (.g (decide ((0 : Int) ≤ r1_.1) && decide (r1_.1 ≤ ((List.length a4_ : Nat) : Int))) <|
          .g (decide (List.length (List.drop 0 (List.take (Int.toNat r1_.1) a4_)) + List.length (List.drop 0 (List.take (Int.toNat (1 : Int)) (List.drop (Int.toNat r2_.1) (List.take (List.length a5_) a5_)))) ≤ 9223372036854775807)) <|
          .g (decide ((0 : Int) ≤ r1_.1) && decide (r1_.1 ≤ ((List.length a4_ : Nat) : Int))) <|
          .g (decide (List.length ((List.drop 0 (List.take (Int.toNat r1_.1) a4_)) ++ (List.drop 0 (List.take (Int.toNat (1 : Int)) (List.drop (Int.toNat r2_.1) (List.take (List.length a5_) a5_))))) + List.length (List.drop (Int.toNat r1_.1) (List.take (List.length a4_) a4_)) ≤ 9223372036854775807)) <|
          .l ((((List.drop 0 (List.take (Int.toNat r1_.1) a4_)) ++ (List.drop 0 (List.take (Int.toNat (1 : Int)) (List.drop (Int.toNat r2_.1) (List.take (List.length a5_) a5_))))) ++ (List.drop (Int.toNat r1_.1) (List.take (List.length a4_) a4_))), (r3_.2.1, (r3_.2.2.1, r3_.2.2.2))))
        (.t (r3_.1 == (1 : Int))
            (.g (decide ((0 : Int) ≤ r1_.1) && decide (r1_.1 ≤ ((List.length a4_ : Nat) : Int))) <|
              .g (decide (List.length (List.drop 0 (List.take (Int.toNat r1_.1) a4_)) + List.length (List.drop 0 (List.take (Int.toNat (1 : Int)) (List.drop (Int.toNat r2_.1) (List.take (List.length a5_) a5_)))) ≤ 9223372036854775807)) <|
              .g (decide ((0 : Int) ≤ (IntKind.wrap .i64 (r1_.1 + (1 : Int)))) && decide ((IntKind.wrap .i64 (r1_.1 + (1 : Int))) ≤ ((List.length a4_ : Nat) : Int))) <|
              .g (decide (List.length ((List.drop 0 (List.take (Int.toNat r1_.1) a4_)) ++ (List.drop 0 (List.take (Int.toNat (1 : Int)) (List.drop (Int.toNat r2_.1) (List.take (List.length a5_) a5_))))) + List.length (List.drop (Int.toNat (IntKind.wrap .i64 (r1_.1 + (1 : Int)))) (List.take (List.length a4_) a4_)) ≤ 9223372036854775807)) <|
              .l ((((List.drop 0 (List.take (Int.toNat r1_.1) a4_)) ++ (List.drop 0 (List.take (Int.toNat (1 : Int)) (List.drop (Int.toNat r2_.1) (List.take (List.length a5_) a5_))))) ++ (List.drop (Int.toNat (IntKind.wrap .i64 (r1_.1 + (1 : Int)))) (List.take (List.length a4_) a4_))), (r3_.2.1, (r3_.2.2.1, r3_.2.2.2))))
            (.g (decide ((0 : Int) ≤ r1_.1) && decide (r1_.1 ≤ ((List.length a4_ : Nat) : Int))) <|
              .g (decide ((0 : Int) ≤ (IntKind.wrap .i64 (r1_.1 + (1 : Int)))) && decide ((IntKind.wrap .i64 (r1_.1 + (1 : Int))) ≤ ((List.length a4_ : Nat) : Int))) <|
              .g (decide (List.length (List.drop 0 (List.take (Int.toNat r1_.1) a4_)) + List.length (List.drop (Int.toNat (IntKind.wrap .i64 (r1_.1 + (1 : Int)))) (List.take (List.length a4_) a4_)) ≤ 9223372036854775807)) <|
              .l (((List.drop 0 (List.take (Int.toNat r1_.1) a4_)) ++ (List.drop (Int.toNat (IntKind.wrap .i64 (r1_.1 + (1 : Int)))) (List.take (List.length a4_) a4_))), (r3_.2.1, (r3_.2.2.1, r3_.2.2.2))))))

noncomputable def F_sp_l1Cur_spoilt (a4_ : List UInt8) (a5_ : List UInt8) (a1_ : List (Int)) (a2_ : Int) (a3_ : Int) : Option ((List UInt8) × ((List (Int)) × ((Int) × (Int)))) := (T_sp_l1Cur_spoilt a4_ a5_ a1_ a2_ a3_).ev

noncomputable def A_sp_l1Cur_spoilt : Sh := (.cons (.box 64 0) (.cons (.dat .str) (.cons (.dat .str) .nil)))

noncomputable def I_sp_l1Cur_spoilt : List (Nat × OSh) := [(64, .cells (.cons (.dat (.slice (.int .u8))) (.cons (.dat (.int .i64)) (.cons (.dat (.int .u64)) .nil))))]

noncomputable def K_sp_l1Cur_spoilt : RetK := { acts := [], res := [.tmp 6], sh := (.cons (.dat .str) .nil), obs := [(64, .cells (.cons (.dat (.slice (.int .u8))) (.cons (.dat (.int .i64)) (.cons (.dat (.int .u64)) .nil))))], pins := [(0, 64)] }

noncomputable def D_sp_l1Cur_spoilt : FD where
  A := A_sp_l1Cur_spoilt
  ins := I_sp_l1Cur_spoilt
  lend := [.arg 0]
  R := (List UInt8) × ((List (Int)) × ((Int) × (Int)))
  F := fun x => F_sp_l1Cur_spoilt x.1.2.1 x.1.2.2.1 x.2.1.1 x.2.1.2.1 x.2.1.2.2.1
  emb := fun r => ([.dat .str r.1], [(64, .cells [.dat (.slice (.int .u8)) r.2.1, .dat (.int .i64) r.2.2.1, .dat (.int .u64) r.2.2.2])])

noncomputable def E_sp_l1Cur_spoilt : Env := envOf [(66, D_sp_l1Cur_pick)]

noncomputable def Z_sp_l1Cur_spoilt : Nat → Nat → List Nat := fun _ _ => []

noncomputable def O_sp_l1Cur_spoilt : List (Nat × LD) := []

noncomputable def C_sp_l1Cur_spoilt : Code := (f70.body).getD .skip

/-! ### 64 (*loop.example/g01110/spec.l1Cur).anyLog -/

noncomputable def T_sp_l1Cur_anyLog (a1_ : List (Int)) (a2_ : Int) (a3_ : Int) : Tr ((List UInt8) × ((List UInt8) × ((Int) × ((List (Int)) × ((Int) × (Int)))))) :=
  .c ((List UInt8) × ((List UInt8) × ((Int) × ((List (Int)) × ((Int) × (Int)))))) (F_sp_l1Cur_log12 a1_ a2_ a3_) fun r1_ =>
  .c ((Int) × ((List (Int)) × ((Int) × (Int)))) (F_sp_l1Cur_pick (24 : Int) r1_.2.2.2.1 r1_.2.2.2.2.1 r1_.2.2.2.2.2) fun r2_ =>
  .t (r2_.1 == (0 : Int))
    (.l (r1_.1, (r1_.2.1, ((IntKind.wrap .i64 (r1_.2.2.1 + (1 : Int))), (r2_.2.1, (r2_.2.2.1, r2_.2.2.2))))))
    (.t (r2_.1 == (1 : Int))
        (.c ((List UInt8) × ((List (Int)) × ((Int) × (Int)))) (F_sp_l1Cur_spoilt r1_.2.1 ([35, 64, 10, 48, 49] : List UInt8) r2_.2.1 r2_.2.2.1 r2_.2.2.2) fun r3_ =>
          .l (r1_.1, (r3_.1, (r1_.2.2.1, (r3_.2.1, (r3_.2.2.1, r3_.2.2.2))))))
        (.t (r2_.1 == (2 : Int))
            (.g (decide (List.length r1_.1 + List.length r1_.2.1 ≤ 9223372036854775807)) <|
              .l ((r1_.1 ++ r1_.2.1), (r1_.2.1, (r1_.2.2.1, (r2_.2.1, (r2_.2.2.1, r2_.2.2.2))))))
            (.l (r1_.1, (r1_.2.1, (r1_.2.2.1, (r2_.2.1, (r2_.2.2.1, r2_.2.2.2))))))))

noncomputable def F_sp_l1Cur_anyLog (a1_ : List (Int)) (a2_ : Int) (a3_ : Int) : Option ((List UInt8) × ((List UInt8) × ((Int) × ((List (Int)) × ((Int) × (Int)))))) := (T_sp_l1Cur_anyLog a1_ a2_ a3_).ev

noncomputable def A_sp_l1Cur_anyLog : Sh := (.cons (.box 64 0) .nil)

noncomputable def I_sp_l1Cur_anyLog : List (Nat × OSh) := [(64, .cells (.cons (.dat (.slice (.int .u8))) (.cons (.dat (.int .i64)) (.cons (.dat (.int .u64)) .nil))))]

noncomputable def K_sp_l1Cur_anyLog : RetK := { acts := [], res := [.cell 2 31], sh := (.cons (.agg (.cons (.dat .str) (.cons (.dat .str) (.cons (.dat (.int .i64)) .nil)))) .nil), obs := [(64, .cells (.cons (.dat (.slice (.int .u8))) (.cons (.dat (.int .i64)) (.cons (.dat (.int .u64)) .nil))))], pins := [(0, 64)] }

noncomputable def D_sp_l1Cur_anyLog : FD where
  A := A_sp_l1Cur_anyLog
  ins := I_sp_l1Cur_anyLog
  lend := [.arg 0]
  R := (List UInt8) × ((List UInt8) × ((Int) × ((List (Int)) × ((Int) × (Int)))))
  F := fun x => F_sp_l1Cur_anyLog x.2.1.1 x.2.1.2.1 x.2.1.2.2.1
  emb := fun r => ([.agg [.dat .str r.1, .dat .str r.2.1, .dat (.int .i64) r.2.2.1]], [(64, .cells [.dat (.slice (.int .u8)) r.2.2.2.1, .dat (.int .i64) r.2.2.2.2.1, .dat (.int .u64) r.2.2.2.2.2])])

noncomputable def E_sp_l1Cur_anyLog : Env := envOf [(69, D_sp_l1Cur_log12), (66, D_sp_l1Cur_pick), (70, D_sp_l1Cur_spoilt)]

noncomputable def Z_sp_l1Cur_anyLog : Nat → Nat → List Nat := fun _ _ => []

noncomputable def O_sp_l1Cur_anyLog : List (Nat × LD) := []

noncomputable def C_sp_l1Cur_anyLog : Code := (f64.body).getD .skip

/-! ### 44 loop.example/g01110/spec.DrawCrashLog -/

noncomputable def T_sp_DrawCrashLog (a1_ : List (Int)) : Tr ((List UInt8) × ((List UInt8) × ((Int) × ((Int) × (Bool))))) :=
  .c ((List UInt8) × ((List UInt8) × ((Int) × ((List (Int)) × ((Int) × (Int)))))) (F_sp_l1Cur_anyLog a1_ (0 : Int) (0 : Int)) fun r1_ =>
  .c ((Int) × ((List (Int)) × ((Int) × (Int)))) (F_sp_l1Cur_pick (IntKind.wrap .i64 (((List.length r1_.2.1 : Nat) : Int) + (3 : Int))) r1_.2.2.2.1 r1_.2.2.2.2.1 r1_.2.2.2.2.2) fun r2_ =>
  .c ((Bool) × ((List (Int)) × ((Int) × (Int)))) (F_sp_l1Cur_one (2 : Int) r2_.2.1 r2_.2.2.1 r2_.2.2.2) fun r3_ =>
  .l (r1_.1, (r1_.2.1, (r1_.2.2.1, ((IntKind.wrap .i64 (r2_.1 - (1 : Int))), r3_.1))))

noncomputable def F_sp_DrawCrashLog (a1_ : List (Int)) : Option ((List UInt8) × ((List UInt8) × ((Int) × ((Int) × (Bool))))) := (T_sp_DrawCrashLog a1_).ev

noncomputable def A_sp_DrawCrashLog : Sh := (.cons (.dat (.slice (.int .u8))) .nil)

noncomputable def I_sp_DrawCrashLog : List (Nat × OSh) := []

noncomputable def K_sp_DrawCrashLog : RetK := { acts := [], res := [.cell 2 31, .tmp 3, .tmp 4], sh := (.cons (.agg (.cons (.dat .str) (.cons (.dat .str) (.cons (.dat (.int .i64)) .nil)))) (.cons (.dat (.int .i64)) (.cons (.dat .bool) .nil))), obs := [], pins := [] }

noncomputable def D_sp_DrawCrashLog : FD where
  A := A_sp_DrawCrashLog
  ins := I_sp_DrawCrashLog
  lend := []
  R := (List UInt8) × ((List UInt8) × ((Int) × ((Int) × (Bool))))
  F := fun x => F_sp_DrawCrashLog x.1.1
  emb := fun r => ([.agg [.dat .str r.1, .dat .str r.2.1, .dat (.int .i64) r.2.2.1], .dat (.int .i64) r.2.2.2.1, .dat .bool r.2.2.2.2], [])

noncomputable def E_sp_DrawCrashLog : Env := envOf [(64, D_sp_l1Cur_anyLog), (66, D_sp_l1Cur_pick), (65, D_sp_l1Cur_one)]

noncomputable def Z_sp_DrawCrashLog : Nat → Nat → List Nat := fun _ _ => []

noncomputable def O_sp_DrawCrashLog : List (Nat × LD) := []

noncomputable def C_sp_DrawCrashLog : Code := (f44.body).getD .skip

/-! ### 38 loop.example/g01110/laws.vCut -/

noncomputable def T_lw_vCut (a1_ : List (Int)) (a2_ : Int) : Tr (List (Int)) :=
  .t (decide (((List.length a1_ : Nat) : Int) < a2_))
    (.g (decide ((0 : Int) ≤ ((List.length a1_ : Nat) : Int)) && decide (((List.length a1_ : Nat) : Int) ≤ ((List.length a1_ : Nat) : Int))) <|
      .g (decide ((List.length ([] : List (Int)) + List.length (List.drop (Int.toNat ((List.length a1_ : Nat) : Int)) (List.take (List.length a1_) a1_))) * 1 ≤ 140737488355328)) <|
      .g (decide ((List.length (([] : List (Int)) ++ (List.drop (Int.toNat ((List.length a1_ : Nat) : Int)) (List.take (List.length a1_) a1_))) + List.length ([(IntKind.wrap .u8 ((List.length a1_ : Nat) : Int))] : List (Int))) * 1 ≤ 140737488355328)) <|
      .l ((([] : List (Int)) ++ (List.drop (Int.toNat ((List.length a1_ : Nat) : Int)) (List.take (List.length a1_) a1_))) ++ ([(IntKind.wrap .u8 ((List.length a1_ : Nat) : Int))] : List (Int))))
    (.g (decide ((0 : Int) ≤ a2_) && decide (a2_ ≤ ((List.length a1_ : Nat) : Int))) <|
      .g (decide ((List.length ([] : List (Int)) + List.length (List.drop (Int.toNat a2_) (List.take (List.length a1_) a1_))) * 1 ≤ 140737488355328)) <|
      .g (decide ((List.length (([] : List (Int)) ++ (List.drop (Int.toNat a2_) (List.take (List.length a1_) a1_))) + List.length ([(IntKind.wrap .u8 a2_)] : List (Int))) * 1 ≤ 140737488355328)) <|
      .l ((([] : List (Int)) ++ (List.drop (Int.toNat a2_) (List.take (List.length a1_) a1_))) ++ ([(IntKind.wrap .u8 a2_)] : List (Int))))

noncomputable def F_lw_vCut (a1_ : List (Int)) (a2_ : Int) : Option (List (Int)) := (T_lw_vCut a1_ a2_).ev

noncomputable def A_lw_vCut : Sh := (.cons (.dat (.slice (.int .u8))) (.cons (.dat (.int .i64)) .nil))

noncomputable def I_lw_vCut : List (Nat × OSh) := []

noncomputable def K_lw_vCut : RetK := { acts := [.ren 11 0], res := [.tmp 4], sh := (.cons (.arr 0) .nil), obs := [(0, .arr 5 (.int .u8))], pins := [] }

noncomputable def D_lw_vCut : FD where
  A := A_lw_vCut
  ins := I_lw_vCut
  lend := []
  R := List (Int)
  F := fun x => F_lw_vCut x.1.1 x.1.2.1
  emb := fun r => ([.arr 0], [(0, .arr 5 (.int .u8) r)])

noncomputable def E_lw_vCut : Env := envOf []

noncomputable def Z_lw_vCut : Nat → Nat → List Nat := fun _ _ => []

noncomputable def O_lw_vCut : List (Nat × LD) := []

noncomputable def C_lw_vCut : Code := (f38.body).getD .skip

/-! ### 45 loop.example/g01110/spec.DrawRecoverLog -/

noncomputable def T_sp_DrawRecoverLog (a1_ : List (Int)) : Tr (List UInt8) :=
  .c ((List UInt8) × ((List UInt8) × ((Int) × ((List (Int)) × ((Int) × (Int)))))) (F_sp_l1Cur_log12 a1_ (0 : Int) (0 : Int)) fun r1_ =>
  .g (decide (List.length r1_.1 + List.length r1_.2.1 ≤ 9223372036854775807)) <|
  .c ((Int) × ((List (Int)) × ((Int) × (Int)))) (F_sp_l1Cur_pick (4 : Int) r1_.2.2.2.1 r1_.2.2.2.2.1 r1_.2.2.2.2.2) fun r2_ =>
  .t (r2_.1 == (0 : Int))
    (.c ((List UInt8) × ((List (Int)) × ((Int) × (Int)))) (F_sp_l1Cur_spoilt (r1_.1 ++ r1_.2.1) ([35, 64, 10, 48, 49] : List UInt8) r2_.2.1 r2_.2.2.1 r2_.2.2.2) fun r3_ =>
      .c ((Bool) × ((List (Int)) × ((Int) × (Int)))) (F_sp_l1Cur_one (40 : Int) r3_.2.1 r3_.2.2.1 r3_.2.2.2) fun r4_ =>
      .t r4_.1
        (.c ((Int) × ((List (Int)) × ((Int) × (Int)))) (F_sp_l1Cur_pick (2 : Int) r4_.2.1 r4_.2.2.1 r4_.2.2.2) fun r5_ =>
          .g (decide ((0 : Int) ≤ (IntKind.wrap .i64 ((30000 : Int) + r5_.1))) && decide ((IntKind.wrap .i64 ((30000 : Int) + r5_.1)) ≤ (IntKind.wrap .i64 ((30000 : Int) + r5_.1))) && decide (((1 : Nat) : Int) * (IntKind.wrap .i64 ((30000 : Int) + r5_.1)) ≤ 281474976710656)) <|
          .l (bytesOf (List.replicate (Int.toNat (IntKind.wrap .i64 ((30000 : Int) + r5_.1))) (0 : Int))))
        (.l r3_.1))
    (.t (r2_.1 == (1 : Int))
        (.c ((Int) × ((List (Int)) × ((Int) × (Int)))) (F_sp_l1Cur_pick (IntKind.wrap .i64 (((List.length (r1_.1 ++ r1_.2.1) : Nat) : Int) + (1 : Int))) r2_.2.1 r2_.2.2.1 r2_.2.2.2) fun r6_ =>
          .g (decide ((0 : Int) ≤ r6_.1) && decide (r6_.1 ≤ ((List.length (r1_.1 ++ r1_.2.1) : Nat) : Int))) <|
          .c ((Bool) × ((List (Int)) × ((Int) × (Int)))) (F_sp_l1Cur_one (40 : Int) r6_.2.1 r6_.2.2.1 r6_.2.2.2) fun r7_ =>
          .t r7_.1
            (.c ((Int) × ((List (Int)) × ((Int) × (Int)))) (F_sp_l1Cur_pick (2 : Int) r7_.2.1 r7_.2.2.1 r7_.2.2.2) fun r8_ =>
              .g (decide ((0 : Int) ≤ (IntKind.wrap .i64 ((30000 : Int) + r8_.1))) && decide ((IntKind.wrap .i64 ((30000 : Int) + r8_.1)) ≤ (IntKind.wrap .i64 ((30000 : Int) + r8_.1))) && decide (((1 : Nat) : Int) * (IntKind.wrap .i64 ((30000 : Int) + r8_.1)) ≤ 281474976710656)) <|
              .l (bytesOf (List.replicate (Int.toNat (IntKind.wrap .i64 ((30000 : Int) + r8_.1))) (0 : Int))))
            (.l (List.drop 0 (List.take (Int.toNat r6_.1) (r1_.1 ++ r1_.2.1)))))
        (.t (r2_.1 == (2 : Int))
            (.c ((Int) × ((List (Int)) × ((Int) × (Int)))) (F_sp_l1Cur_pick (4 : Int) r2_.2.1 r2_.2.2.1 r2_.2.2.2) fun r9_ =>
              .c ((List UInt8) × ((List UInt8) × ((List (Int)) × ((Int) × (Int))))) (F_sp_l1Cur_logRecord r9_.2.1 r9_.2.2.1 r9_.2.2.2) fun r10_ =>
              .c (List UInt8) (F_sp_l12Line r9_.1 r10_.1 r10_.2.1) fun r11_ =>
              .g (decide (List.length (r1_.1 ++ r1_.2.1) + List.length r11_ ≤ 9223372036854775807)) <|
              .c ((Bool) × ((List (Int)) × ((Int) × (Int)))) (F_sp_l1Cur_one (40 : Int) r10_.2.2.1 r10_.2.2.2.1 r10_.2.2.2.2) fun r12_ =>
              .t r12_.1
                (.c ((Int) × ((List (Int)) × ((Int) × (Int)))) (F_sp_l1Cur_pick (2 : Int) r12_.2.1 r12_.2.2.1 r12_.2.2.2) fun r13_ =>
                  .g (decide ((0 : Int) ≤ (IntKind.wrap .i64 ((30000 : Int) + r13_.1))) && decide ((IntKind.wrap .i64 ((30000 : Int) + r13_.1)) ≤ (IntKind.wrap .i64 ((30000 : Int) + r13_.1))) && decide (((1 : Nat) : Int) * (IntKind.wrap .i64 ((30000 : Int) + r13_.1)) ≤ 281474976710656)) <|
                  .l (bytesOf (List.replicate (Int.toNat (IntKind.wrap .i64 ((30000 : Int) + r13_.1))) (0 : Int))))
                (.l ((r1_.1 ++ r1_.2.1) ++ r11_)))
            (.c ((Bool) × ((List (Int)) × ((Int) × (Int)))) (F_sp_l1Cur_one (40 : Int) r2_.2.1 r2_.2.2.1 r2_.2.2.2) fun r14_ =>
              .t r14_.1
                (.c ((Int) × ((List (Int)) × ((Int) × (Int)))) (F_sp_l1Cur_pick (2 : Int) r14_.2.1 r14_.2.2.1 r14_.2.2.2) fun r15_ =>
                  .g (decide ((0 : Int) ≤ (IntKind.wrap .i64 ((30000 : Int) + r15_.1))) && decide ((IntKind.wrap .i64 ((30000 : Int) + r15_.1)) ≤ (IntKind.wrap .i64 ((30000 : Int) + r15_.1))) && decide (((1 : Nat) : Int) * (IntKind.wrap .i64 ((30000 : Int) + r15_.1)) ≤ 281474976710656)) <|
                  .l (bytesOf (List.replicate (Int.toNat (IntKind.wrap .i64 ((30000 : Int) + r15_.1))) (0 : Int))))
                (.l (r1_.1 ++ r1_.2.1)))))

noncomputable def F_sp_DrawRecoverLog (a1_ : List (Int)) : Option (List UInt8) := (T_sp_DrawRecoverLog a1_).ev

noncomputable def A_sp_DrawRecoverLog : Sh := (.cons (.dat (.slice (.int .u8))) .nil)

noncomputable def I_sp_DrawRecoverLog : List (Nat × OSh) := []

noncomputable def K_sp_DrawRecoverLog : RetK := { acts := [], res := [.tmp 2], sh := (.cons (.dat .str) .nil), obs := [], pins := [] }

noncomputable def D_sp_DrawRecoverLog : FD where
  A := A_sp_DrawRecoverLog
  ins := I_sp_DrawRecoverLog
  lend := []
  R := List UInt8
  F := fun x => F_sp_DrawRecoverLog x.1.1
  emb := fun r => ([.dat .str r], [])

noncomputable def E_sp_DrawRecoverLog : Env := envOf [(69, D_sp_l1Cur_log12), (66, D_sp_l1Cur_pick), (70, D_sp_l1Cur_spoilt), (65, D_sp_l1Cur_one), (62, D_sp_l1Cur_logRecord), (53, D_sp_l12Line)]

noncomputable def Z_sp_DrawRecoverLog : Nat → Nat → List Nat := fun _ _ => []

noncomputable def O_sp_DrawRecoverLog : List (Nat × LD) := []

noncomputable def C_sp_DrawRecoverLog : Code := (f45.body).getD .skip

/-! ### 18 loop.example/g01110/impl.RecoverLog -/

noncomputable def T_im_RecoverLog (a1_ : List UInt8) : Tr ((List UInt8) × ((List UInt8) × ((Int) × ((Int) × (Bool))))) :=
  .t (decide ((30000 : Int) < ((List.length a1_ : Nat) : Int)))
    (.l (([] : List UInt8), (([] : List UInt8), ((0 : Int), ((0 : Int), false)))))
    (.c ((Int) × (List ((List UInt8) × (List UInt8)))) (F_im_readRecords a1_) fun r1_ =>
      .g (decide ((0 : Int) ≤ r1_.1) && decide (r1_.1 ≤ ((List.length a1_ : Nat) : Int))) <|
      .l ((List.drop 0 (List.take (Int.toNat r1_.1) a1_)), (([] : List UInt8), (((List.length r1_.2 : Nat) : Int), (r1_.1, true)))))

noncomputable def F_im_RecoverLog (a1_ : List UInt8) : Option ((List UInt8) × ((List UInt8) × ((Int) × ((Int) × (Bool))))) := (T_im_RecoverLog a1_).ev

noncomputable def A_im_RecoverLog : Sh := (.cons (.dat .str) .nil)

noncomputable def I_im_RecoverLog : List (Nat × OSh) := []

noncomputable def K_im_RecoverLog : RetK := { acts := [], res := [.cell 2 31, .tmp 3, .tmp 4], sh := (.cons (.agg (.cons (.dat .str) (.cons (.dat .str) (.cons (.dat (.int .i64)) .nil)))) (.cons (.dat (.int .i64)) (.cons (.dat .bool) .nil))), obs := [], pins := [] }

noncomputable def D_im_RecoverLog : FD where
  A := A_im_RecoverLog
  ins := I_im_RecoverLog
  lend := []
  R := (List UInt8) × ((List UInt8) × ((Int) × ((Int) × (Bool))))
  F := fun x => F_im_RecoverLog x.1.1
  emb := fun r => ([.agg [.dat .str r.1, .dat .str r.2.1, .dat (.int .i64) r.2.2.1], .dat (.int .i64) r.2.2.2.1, .dat .bool r.2.2.2.2], [])

noncomputable def E_im_RecoverLog : Env := envOf [(58, D_im_readRecords)]

noncomputable def Z_im_RecoverLog : Nat → Nat → List Nat := fun _ _ => []

noncomputable def O_im_RecoverLog : List (Nat × LD) := []

noncomputable def C_im_RecoverLog : Code := (f18.body).getD .skip

/-! ### 17 loop.example/g01110/spec.RecoverLog -/

noncomputable def T_sp_RecoverLog (a1_ : List UInt8) : Tr ((List UInt8) × ((List UInt8) × ((Int) × ((Int) × (Bool))))) :=
  .t (decide ((30000 : Int) < ((List.length a1_ : Nat) : Int)))
    (.l (([] : List UInt8), (([] : List UInt8), ((0 : Int), ((0 : Int), false)))))
    (.c ((Int) × (List ((List UInt8) × (List UInt8)))) (F_sp_l12Open a1_) fun r1_ =>
      .g (decide ((0 : Int) ≤ r1_.1) && decide (r1_.1 ≤ ((List.length a1_ : Nat) : Int))) <|
      .l ((List.drop 0 (List.take (Int.toNat r1_.1) a1_)), (([] : List UInt8), (((List.length r1_.2 : Nat) : Int), (r1_.1, true)))))

noncomputable def F_sp_RecoverLog (a1_ : List UInt8) : Option ((List UInt8) × ((List UInt8) × ((Int) × ((Int) × (Bool))))) := (T_sp_RecoverLog a1_).ev

noncomputable def A_sp_RecoverLog : Sh := (.cons (.dat .str) .nil)

noncomputable def I_sp_RecoverLog : List (Nat × OSh) := []

noncomputable def K_sp_RecoverLog : RetK := { acts := [], res := [.cell 2 31, .tmp 3, .tmp 4], sh := (.cons (.agg (.cons (.dat .str) (.cons (.dat .str) (.cons (.dat (.int .i64)) .nil)))) (.cons (.dat (.int .i64)) (.cons (.dat .bool) .nil))), obs := [], pins := [] }

noncomputable def D_sp_RecoverLog : FD where
  A := A_sp_RecoverLog
  ins := I_sp_RecoverLog
  lend := []
  R := (List UInt8) × ((List UInt8) × ((Int) × ((Int) × (Bool))))
  F := fun x => F_sp_RecoverLog x.1.1
  emb := fun r => ([.agg [.dat .str r.1, .dat .str r.2.1, .dat (.int .i64) r.2.2.1], .dat (.int .i64) r.2.2.2.1, .dat .bool r.2.2.2.2], [])

noncomputable def E_sp_RecoverLog : Env := envOf [(57, D_sp_l12Open)]

noncomputable def Z_sp_RecoverLog : Nat → Nat → List Nat := fun _ _ => []

noncomputable def O_sp_RecoverLog : List (Nat × LD) := []

noncomputable def C_sp_RecoverLog : Code := (f17.body).getD .skip

/-! ### 31 loop.example/g01110/impl.LogRecords -/

noncomputable def T_im_LogRecords (a1_ : List UInt8) (a2_ : List UInt8) (a3_ : Int) : Tr ((Bool) × (List ((List UInt8) × (List UInt8)))) :=
  .c (Bool) (F_im_IsValidLog a1_ a2_ a3_) fun r1_ =>
  .t (!r1_)
    (.l (false, ([] : List ((List UInt8) × (List UInt8)))))
    (.g (decide (List.length a1_ + List.length a2_ ≤ 9223372036854775807)) <|
      .c ((Int) × (List ((List UInt8) × (List UInt8)))) (F_im_readRecords (a1_ ++ a2_)) fun r2_ =>
      .l (true, r2_.2))

noncomputable def F_im_LogRecords (a1_ : List UInt8) (a2_ : List UInt8) (a3_ : Int) : Option ((Bool) × (List ((List UInt8) × (List UInt8)))) := (T_im_LogRecords a1_ a2_ a3_).ev

noncomputable def A_im_LogRecords : Sh := (.cons (.agg (.cons (.dat .str) (.cons (.dat .str) (.cons (.dat (.int .i64)) .nil)))) .nil)

noncomputable def I_im_LogRecords : List (Nat × OSh) := []

noncomputable def K_im_LogRecords : RetK := { acts := [.own 2 0 27 (.pair .str .str), .ren 960 0], res := [.tmp 2, .tmp 3], sh := (.cons (.arr 0) (.cons (.dat .bool) .nil)), obs := [(0, .arr 27 (.pair .str .str))], pins := [] }

noncomputable def D_im_LogRecords : FD where
  A := A_im_LogRecords
  ins := I_im_LogRecords
  lend := []
  R := (Bool) × (List ((List UInt8) × (List UInt8)))
  F := fun x => F_im_LogRecords x.1.1.1 x.1.1.2.1 x.1.1.2.2.1
  emb := fun r => ([.arr 0, .dat .bool r.1], [(0, .arr 27 (.pair .str .str) r.2)])

noncomputable def E_im_LogRecords : Env := envOf [(23, D_im_IsValidLog), (58, D_im_readRecords)]

noncomputable def Z_im_LogRecords : Nat → Nat → List Nat := fun _ _ => []

noncomputable def O_im_LogRecords : List (Nat × LD) := []

noncomputable def C_im_LogRecords : Code := (f31.body).getD .skip

/-! ### 43 loop.example/g01110/laws.vRecords -/

noncomputable def S_lw_vRecords_0 (k : (List ((List UInt8) × (List UInt8))) × (List ((List UInt8) × (List UInt8)))) (v : Int) : Tr ((Int) ⊕ ((Unit) ⊕ (Unit))) :=
  .t (decide (v < ((List.length k.1 : Nat) : Int)))
    (.g (inR v (List.length k.1)) <|
      .g (inR v (List.length k.2)) <|
      .t (!(((List.getD k.1 (Int.toNat v) (([] : List UInt8), ([] : List UInt8))).1 == (List.getD k.2 (Int.toNat v) (([] : List UInt8), ([] : List UInt8))).1) && (((List.getD k.1 (Int.toNat v) (([] : List UInt8), ([] : List UInt8))).2 == (List.getD k.2 (Int.toNat v) (([] : List UInt8), ([] : List UInt8))).2) && true)))
        (.l (.inr (.inr ())))
        (.l (.inl (IntKind.wrap .i64 (v + (1 : Int))))))
    (.l (.inr (.inl ())))

noncomputable def L_lw_vRecords_0 (k : (List ((List UInt8) × (List UInt8))) × (List ((List UInt8) × (List UInt8)))) (v : Int) : Option ((Unit) ⊕ (Unit)) := iter (fun v => (S_lw_vRecords_0 k v).ev) v

noncomputable def DL_lw_vRecords_0 : LD where
  head := { acts := [], S := { slots := [0, 1, 5], sh := (.cons (.dat (.slice (.pair .str .str))) (.cons (.dat (.slice (.pair .str .str))) (.cons (.dat (.int .i64)) .nil))), obs := [] } }
  exits := [(0, { acts := [], S := { slots := [], sh := .nil, obs := [] } })]
  rets := { acts := [], S := { slots := [4], sh := (.cons (.dat .bool) .nil), obs := [] } }
  K := (List ((List UInt8) × (List UInt8))) × (List ((List UInt8) × (List UInt8)))
  V := Int
  R := (Unit) ⊕ (Unit)
  join := fun k v => ((k.1, (k.2, (v, ()))), ())
  sk := fun t => (t.1.1, t.1.2.1)
  sv := fun t => t.1.2.2.1
  step := S_lw_vRecords_0
  leaf := fun _ r => .s (Unit) (Unit) r (fun _ => .l (.exit 0 (mkSt ({ slots := [], sh := .nil, obs := [] }) ((), ())))) (fun _ => .l (.ret (mkSt ({ slots := [4], sh := (.cons (.dat .bool) .nil), obs := [] }) ((false, ()), ()))))

noncomputable def T_lw_vRecords (a1_ : List ((List UInt8) × (List UInt8))) (a2_ : List ((List UInt8) × (List UInt8))) : Tr (Bool) :=
  .t (((List.length a1_ : Nat) : Int) != ((List.length a2_ : Nat) : Int))
    (.l false)
    (.c ((Unit) ⊕ (Unit)) (L_lw_vRecords_0 (a1_, a2_) (0 : Int)) fun r5_ =>
      .s (Unit) (Unit) r5_
        (fun _ => .l true)
        (fun _ => .l false))

noncomputable def F_lw_vRecords (a1_ : List ((List UInt8) × (List UInt8))) (a2_ : List ((List UInt8) × (List UInt8))) : Option (Bool) := (T_lw_vRecords a1_ a2_).ev

noncomputable def A_lw_vRecords : Sh := (.cons (.dat (.slice (.pair .str .str))) (.cons (.dat (.slice (.pair .str .str))) .nil))

noncomputable def I_lw_vRecords : List (Nat × OSh) := []

noncomputable def K_lw_vRecords : RetK := { acts := [], res := [.tmp 4], sh := (.cons (.dat .bool) .nil), obs := [], pins := [] }

noncomputable def D_lw_vRecords : FD where
  A := A_lw_vRecords
  ins := I_lw_vRecords
  lend := []
  R := Bool
  F := fun x => F_lw_vRecords x.1.1 x.1.2.1
  emb := fun r => ([.dat .bool r], [])

noncomputable def E_lw_vRecords : Env := envOf []

noncomputable def Z_lw_vRecords : Nat → Nat → List Nat := fun _ _ => []

noncomputable def O_lw_vRecords : List (Nat × LD) := [(0, DL_lw_vRecords_0)]

noncomputable def C_lw_vRecords : Code := (f43.body).getD .skip

/-! ### 11 loop.example/g01110/laws.FnCrashes -/

noncomputable def T_lw_FnCrashes (a1_ : List (Int)) : Tr (Bool) :=
  .c (Bool) (F_lw_vBig a1_) fun r1_ =>
  .t r1_
    (.l true)
    (.c ((List UInt8) × ((List UInt8) × ((Int) × ((Int) × (Bool))))) (F_sp_DrawCrashLog a1_) fun r2_ =>
      .c ((List UInt8) × (Bool)) (F_im_CrashLog r2_.1 r2_.2.1 r2_.2.2.1 r2_.2.2.2.1 r2_.2.2.2.2) fun r3_ =>
      .c ((List UInt8) × (Bool)) (F_sp_CrashLog r2_.1 r2_.2.1 r2_.2.2.1 r2_.2.2.2.1 r2_.2.2.2.2) fun r4_ =>
      .c (List (Int)) (F_lw_vCut a1_ (1 : Int)) fun r5_ =>
      .c (List UInt8) (F_sp_DrawRecoverLog r5_) fun r6_ =>
      .c ((List UInt8) × ((List UInt8) × ((Int) × ((Int) × (Bool))))) (F_im_RecoverLog r6_) fun r7_ =>
      .c ((List UInt8) × ((List UInt8) × ((Int) × ((Int) × (Bool))))) (F_sp_RecoverLog r6_) fun r8_ =>
      .t (!(r3_.1 == r4_.1))
        (.l false)
        (.t (!(r3_.2 == r4_.2))
            (.l false)
            (.t (!((r7_.1 == r8_.1) && ((r7_.2.1 == r8_.2.1) && ((r7_.2.2.1 == r8_.2.2.1) && true))))
                (.l false)
                (.t (r7_.2.2.2.1 != r8_.2.2.2.1)
                    (.l false)
                    (.t (!(r7_.2.2.2.2 == r8_.2.2.2.2))
                        (.l false)
                        (.t (!r3_.2)
                            (.l true)
                            (.c ((List UInt8) × ((List UInt8) × ((Int) × ((Int) × (Bool))))) (F_im_RecoverLog r3_.1) fun r9_ =>
                              .t (!r9_.2.2.2.2)
                                (.l false)
                                (.c (Bool) (F_im_IsValidLog r9_.1 r9_.2.1 r9_.2.2.1) fun r10_ =>
                                  .t (!r10_)
                                    (.l false)
                                    (.t (decide (r9_.2.2.2.1 < ((List.length r2_.1 : Nat) : Int)))
                                        (.l false)
                                        (.t (((List.length r9_.1 : Nat) : Int) != r9_.2.2.2.1)
                                            (.l false)
                                            (.c ((Bool) × (List ((List UInt8) × (List UInt8)))) (F_im_LogRecords r2_.1 r2_.2.1 r2_.2.2.1) fun r11_ =>
                                              .c ((Bool) × (List ((List UInt8) × (List UInt8)))) (F_im_LogRecords r9_.1 r9_.2.1 r9_.2.2.1) fun r12_ =>
                                              .t (decide (((List.length r12_.2 : Nat) : Int) ≤ ((List.length r11_.2 : Nat) : Int)))
                                                (.g (decide ((0 : Int) ≤ ((List.length r12_.2 : Nat) : Int)) && decide (((List.length r12_.2 : Nat) : Int) ≤ ((List.length r11_.2 : Nat) : Int))) <|
                                                  .c (Bool) (F_lw_vRecords r12_.2 (List.drop 0 (List.take (Int.toNat ((List.length r12_.2 : Nat) : Int)) r11_.2))) fun r13_ =>
                                                  .t r13_
                                                    (.t r2_.2.2.2.2
                                                        (.l true)
                                                        (.t (decide (r2_.2.2.2.1 < ((List.length r2_.2.1 : Nat) : Int)))
                                                            (.l true)
                                                            (.l (((List.length r12_.2 : Nat) : Int) == ((List.length r11_.2 : Nat) : Int)))))
                                                    (.l false))
                                                (.l false))))))))))))

noncomputable def F_lw_FnCrashes (a1_ : List (Int)) : Option (Bool) := (T_lw_FnCrashes a1_).ev

noncomputable def A_lw_FnCrashes : Sh := (.cons (.dat (.slice (.int .u8))) .nil)

noncomputable def I_lw_FnCrashes : List (Nat × OSh) := []

noncomputable def K_lw_FnCrashes : RetK := { acts := [], res := [.tmp 2], sh := (.cons (.dat .bool) .nil), obs := [], pins := [] }

noncomputable def D_lw_FnCrashes : FD where
  A := A_lw_FnCrashes
  ins := I_lw_FnCrashes
  lend := []
  R := Bool
  F := fun x => F_lw_FnCrashes x.1.1
  emb := fun r => ([.dat .bool r], [])

noncomputable def E_lw_FnCrashes : Env := envOf [(35, D_lw_vBig), (44, D_sp_DrawCrashLog), (25, D_im_CrashLog), (24, D_sp_CrashLog), (38, D_lw_vCut), (45, D_sp_DrawRecoverLog), (18, D_im_RecoverLog), (17, D_sp_RecoverLog), (23, D_im_IsValidLog), (31, D_im_LogRecords), (43, D_lw_vRecords)]

noncomputable def Z_lw_FnCrashes : Nat → Nat → List Nat := fun r i => match look [(18, [(10, [130])])] r with
  | some l => (look l i).getD []
  | none => []

noncomputable def O_lw_FnCrashes : List (Nat × LD) := []

noncomputable def C_lw_FnCrashes : Code := (f11.body).getD .skip
end Go.Proofs.YtakbhfnndcnopaaDoor
