import Derived.Test.YtakbhfnndcnopaaDoorB32
import Derived.Test.YtakbhfnndcnopaaDoorProg
namespace Go.Proofs.YtakbhfnndcnopaaDoor
open Go.Proofs.Tryd

noncomputable def tabl : List (Nat × TD) := [(3, .sc (.int .i64)), (4, .sc .bool), (5, .sc (.int .u8)), (9, .sc .str), (23, .st (.pair .str .str) [(9, .str), (9, .str)]), (27, .st (.pair .str .str) [(9, .str), (9, .str)]), (31, .st (.pair .str (.pair .str (.int .i64))) [(9, .str), (9, .str), (3, (.int .i64))]), (36, .st (.pair .str (.pair .str (.int .i64))) [(9, .str), (9, .str), (3, (.int .i64))]), (48, .sl 27 (.pair .str .str) 32), (65, .sl 3 (.int .i64) 8), (66, .sl 65 (.slice (.int .i64)) 24), (68, .st (.pair (.slice (.int .i64)) (.slice (.slice (.int .i64)))) [(65, (.slice (.int .i64))), (66, (.slice (.slice (.int .i64))))]), (70, .st (.pair (.pair (.slice (.int .i64)) (.slice (.slice (.int .i64)))) (.pair (.slice (.int .i64)) (.int .i64))) [(68, (.pair (.slice (.int .i64)) (.slice (.slice (.int .i64))))), (65, (.slice (.int .i64))), (3, (.int .i64))]), (72, .st (.pair (.pair (.pair (.slice (.int .i64)) (.slice (.slice (.int .i64)))) (.pair (.slice (.int .i64)) (.int .i64))) (.pair .str (.pair .str (.int .i64)))) [(70, (.pair (.pair (.slice (.int .i64)) (.slice (.slice (.int .i64)))) (.pair (.slice (.int .i64)) (.int .i64)))), (36, (.pair .str (.pair .str (.int .i64))))]), (75, .st (.pair (.slice (.int .i64)) (.slice (.slice (.int .i64)))) [(65, (.slice (.int .i64))), (66, (.slice (.slice (.int .i64))))]), (77, .st (.pair (.pair (.slice (.int .i64)) (.slice (.slice (.int .i64)))) (.pair (.slice (.int .i64)) (.int .i64))) [(75, (.pair (.slice (.int .i64)) (.slice (.slice (.int .i64))))), (65, (.slice (.int .i64))), (3, (.int .i64))]), (79, .st (.pair (.pair (.pair (.slice (.int .i64)) (.slice (.slice (.int .i64)))) (.pair (.slice (.int .i64)) (.int .i64))) (.pair .str (.pair .str (.int .i64)))) [(77, (.pair (.pair (.slice (.int .i64)) (.slice (.slice (.int .i64)))) (.pair (.slice (.int .i64)) (.int .i64)))), (31, (.pair .str (.pair .str (.int .i64))))]), (109, .sl 9 .str 16)]

noncomputable def tt : Nat → TD := fun i => match look tabl i with
  | some d => d
  | none => .no

/-! ### 13 loop.example/g01110/laws.szLogRecord -/

noncomputable def T_lw_szLogRecord (a1_ : List UInt8) (a2_ : List UInt8) (a3_ : Int) : Tr (Int) :=
  .t (decide ((IntKind.wrap .i64 (a3_ - ((List.length a1_ : Nat) : Int))) < (0 : Int)))
    (.l (-1 : Int))
    (.t (decide ((IntKind.wrap .i64 ((IntKind.wrap .i64 (a3_ - ((List.length a1_ : Nat) : Int))) - ((List.length a2_ : Nat) : Int))) < (0 : Int)))
        (.l (-1 : Int))
        (.l (IntKind.wrap .i64 ((IntKind.wrap .i64 (a3_ - ((List.length a1_ : Nat) : Int))) - ((List.length a2_ : Nat) : Int)))))

noncomputable def F_lw_szLogRecord (a1_ : List UInt8) (a2_ : List UInt8) (a3_ : Int) : Option (Int) := (T_lw_szLogRecord a1_ a2_ a3_).ev

noncomputable def A_lw_szLogRecord : Sh := (.cons (.agg (.cons (.dat .str) (.cons (.dat .str) .nil))) (.cons (.dat (.int .i64)) .nil))

noncomputable def I_lw_szLogRecord : List (Nat × OSh) := []

noncomputable def K_lw_szLogRecord : RetK := { acts := [], res := [.tmp 4], sh := (.cons (.dat (.int .i64)) .nil), obs := [], pins := [] }

noncomputable def D_lw_szLogRecord : FD where
  A := A_lw_szLogRecord
  ins := I_lw_szLogRecord
  lend := []
  R := Int
  F := fun x => F_lw_szLogRecord x.1.1.1 x.1.1.2.1 x.1.2.1
  emb := fun r => ([.dat (.int .i64) r], [])

noncomputable def E_lw_szLogRecord : Env := envOf []

noncomputable def Z_lw_szLogRecord : Nat → Nat → List Nat := fun _ _ => []

noncomputable def O_lw_szLogRecord : List (Nat × LD) := []

noncomputable def C_lw_szLogRecord : Code := (f13.body).getD .skip

/-! ### 15 loop.example/g01110/laws.toLogRecord -/

noncomputable def T_lw_toLogRecord (a1_ : List UInt8) (a2_ : List UInt8) : Tr ((List UInt8) × (List UInt8)) :=
  .l (a1_, a2_)

noncomputable def F_lw_toLogRecord (a1_ : List UInt8) (a2_ : List UInt8) : Option ((List UInt8) × (List UInt8)) := (T_lw_toLogRecord a1_ a2_).ev

noncomputable def A_lw_toLogRecord : Sh := (.cons (.agg (.cons (.dat .str) (.cons (.dat .str) .nil))) .nil)

noncomputable def I_lw_toLogRecord : List (Nat × OSh) := []

noncomputable def K_lw_toLogRecord : RetK := { acts := [], res := [.cell 2 27], sh := (.cons (.agg (.cons (.dat .str) (.cons (.dat .str) .nil))) .nil), obs := [], pins := [] }

noncomputable def D_lw_toLogRecord : FD where
  A := A_lw_toLogRecord
  ins := I_lw_toLogRecord
  lend := []
  R := (List UInt8) × (List UInt8)
  F := fun x => F_lw_toLogRecord x.1.1.1 x.1.1.2.1
  emb := fun r => ([.agg [.dat .str r.1, .dat .str r.2]], [])

noncomputable def E_lw_toLogRecord : Env := envOf []

noncomputable def Z_lw_toLogRecord : Nat → Nat → List Nat := fun _ _ => []

noncomputable def O_lw_toLogRecord : List (Nat × LD) := []

noncomputable def C_lw_toLogRecord : Code := (f15.body).getD .skip

/-! ### 51 loop.example/g01110/spec.l1In -/

noncomputable def T_sp_l1In (a1_ : Int) (a2_ : Int) (a3_ : Int) : Tr (Bool) :=
  .t (decide (a2_ ≤ a1_))
    (.l (decide (a1_ ≤ a3_)))
    (.l false)

noncomputable def F_sp_l1In (a1_ : Int) (a2_ : Int) (a3_ : Int) : Option (Bool) := (T_sp_l1In a1_ a2_ a3_).ev

noncomputable def A_sp_l1In : Sh := (.cons (.dat (.int .i64)) (.cons (.dat (.int .i64)) (.cons (.dat (.int .i64)) .nil)))

noncomputable def I_sp_l1In : List (Nat × OSh) := []

noncomputable def K_sp_l1In : RetK := { acts := [], res := [.tmp 6], sh := (.cons (.dat .bool) .nil), obs := [], pins := [] }

noncomputable def D_sp_l1In : FD where
  A := A_sp_l1In
  ins := I_sp_l1In
  lend := []
  R := Bool
  F := fun x => F_sp_l1In x.1.1 x.1.2.1 x.1.2.2.1
  emb := fun r => ([.dat .bool r], [])

noncomputable def E_sp_l1In : Env := envOf []

noncomputable def Z_sp_l1In : Nat → Nat → List Nat := fun _ _ => []

noncomputable def O_sp_l1In : List (Nat × LD) := []

noncomputable def C_sp_l1In : Code := (f51.body).getD .skip

/-! ### 76 loop.example/g01110/spec.l12Bytes -/

noncomputable def S_sp_l12Bytes_0 (k : (List UInt8) × (Int)) (v : Int) : Tr ((Int) ⊕ ((Unit) ⊕ (Unit))) :=
  .t (decide (v < ((List.length k.1 : Nat) : Int)))
    (.g (inR v (List.length k.1)) <|
      .c (Bool) (F_sp_l1In (IntKind.wrap .i64 ((UInt8.toNat (List.getD k.1 (Int.toNat v) 0) : Nat) : Int)) (32 : Int) (126 : Int)) fun r4_ =>
      .t (!r4_)
        (.l (.inr (.inr ())))
        (.g (inR v (List.length k.1)) <|
          .t (((UInt8.toNat (List.getD k.1 (Int.toNat v) 0) : Nat) : Int) == (35 : Int))
            (.l (.inr (.inr ())))
            (.l (.inl (IntKind.wrap .i64 (v + (1 : Int)))))))
    (.l (.inr (.inl ())))

noncomputable def L_sp_l12Bytes_0 (k : (List UInt8) × (Int)) (v : Int) : Option ((Unit) ⊕ (Unit)) := iter (fun v => (S_sp_l12Bytes_0 k v).ev) v

noncomputable def DL_sp_l12Bytes_0 : LD where
  head := { acts := [], S := { slots := [0, 1, 5], sh := (.cons (.dat .str) (.cons (.dat (.int .i64)) (.cons (.dat (.int .i64)) .nil))), obs := [] } }
  exits := [(0, { acts := [], S := { slots := [0, 1], sh := (.cons (.dat .str) (.cons (.dat (.int .i64)) .nil)), obs := [] } })]
  rets := { acts := [], S := { slots := [4], sh := (.cons (.dat .bool) .nil), obs := [] } }
  K := (List UInt8) × (Int)
  V := Int
  R := (Unit) ⊕ (Unit)
  join := fun k v => ((k.1, (k.2, (v, ()))), ())
  sk := fun t => (t.1.1, t.1.2.1)
  sv := fun t => t.1.2.2.1
  step := S_sp_l12Bytes_0
  leaf := fun k r => .s (Unit) (Unit) r (fun _ => .l (.exit 0 (mkSt ({ slots := [0, 1], sh := (.cons (.dat .str) (.cons (.dat (.int .i64)) .nil)), obs := [] }) ((k.1, (k.2, ())), ())))) (fun _ => .l (.ret (mkSt ({ slots := [4], sh := (.cons (.dat .bool) .nil), obs := [] }) ((false, ()), ()))))

noncomputable def T_sp_l12Bytes (a1_ : List UInt8) (a2_ : Int) : Tr (Bool) :=
  .c ((Unit) ⊕ (Unit)) (L_sp_l12Bytes_0 (a1_, a2_) (0 : Int)) fun r8_ =>
  .s (Unit) (Unit) r8_
    (fun _ => .l (decide (((List.length a1_ : Nat) : Int) ≤ a2_)))
    (fun _ => .l false)

noncomputable def F_sp_l12Bytes (a1_ : List UInt8) (a2_ : Int) : Option (Bool) := (T_sp_l12Bytes a1_ a2_).ev

noncomputable def A_sp_l12Bytes : Sh := (.cons (.dat .str) (.cons (.dat (.int .i64)) .nil))

noncomputable def I_sp_l12Bytes : List (Nat × OSh) := []

noncomputable def K_sp_l12Bytes : RetK := { acts := [], res := [.tmp 4], sh := (.cons (.dat .bool) .nil), obs := [], pins := [] }

noncomputable def D_sp_l12Bytes : FD where
  A := A_sp_l12Bytes
  ins := I_sp_l12Bytes
  lend := []
  R := Bool
  F := fun x => F_sp_l12Bytes x.1.1 x.1.2.1
  emb := fun r => ([.dat .bool r], [])

noncomputable def E_sp_l12Bytes : Env := envOf [(51, D_sp_l1In)]

noncomputable def Z_sp_l12Bytes : Nat → Nat → List Nat := fun _ _ => []

noncomputable def O_sp_l12Bytes : List (Nat × LD) := [(0, DL_sp_l12Bytes_0)]

noncomputable def C_sp_l12Bytes : Code := (f76.body).getD .skip

/-! ### 77 loop.example/g01110/spec.l1Stands -/

noncomputable def S_sp_l1Stands_0 (k : (List UInt8) × (Int)) (v : Int) : Tr ((Int) ⊕ ((Unit) ⊕ (Unit))) :=
  .t (decide (v < ((List.length k.1 : Nat) : Int)))
    (.g (inR v (List.length k.1)) <|
      .t (((UInt8.toNat (List.getD k.1 (Int.toNat v) 0) : Nat) : Int) == k.2)
        (.l (.inr (.inr ())))
        (.l (.inl (IntKind.wrap .i64 (v + (1 : Int))))))
    (.l (.inr (.inl ())))

noncomputable def L_sp_l1Stands_0 (k : (List UInt8) × (Int)) (v : Int) : Option ((Unit) ⊕ (Unit)) := iter (fun v => (S_sp_l1Stands_0 k v).ev) v

noncomputable def DL_sp_l1Stands_0 : LD where
  head := { acts := [], S := { slots := [0, 1, 5], sh := (.cons (.dat .str) (.cons (.dat (.int .u8)) (.cons (.dat (.int .i64)) .nil))), obs := [] } }
  exits := [(0, { acts := [], S := { slots := [], sh := .nil, obs := [] } })]
  rets := { acts := [], S := { slots := [4], sh := (.cons (.dat .bool) .nil), obs := [] } }
  K := (List UInt8) × (Int)
  V := Int
  R := (Unit) ⊕ (Unit)
  join := fun k v => ((k.1, (k.2, (v, ()))), ())
  sk := fun t => (t.1.1, t.1.2.1)
  sv := fun t => t.1.2.2.1
  step := S_sp_l1Stands_0
  leaf := fun _ r => .s (Unit) (Unit) r (fun _ => .l (.exit 0 (mkSt ({ slots := [], sh := .nil, obs := [] }) ((), ())))) (fun _ => .l (.ret (mkSt ({ slots := [4], sh := (.cons (.dat .bool) .nil), obs := [] }) ((true, ()), ()))))

noncomputable def T_sp_l1Stands (a1_ : List UInt8) (a2_ : Int) : Tr (Bool) :=
  .c ((Unit) ⊕ (Unit)) (L_sp_l1Stands_0 (a1_, a2_) (0 : Int)) fun r5_ =>
  .s (Unit) (Unit) r5_
    (fun _ => .l false)
    (fun _ => .l true)

noncomputable def F_sp_l1Stands (a1_ : List UInt8) (a2_ : Int) : Option (Bool) := (T_sp_l1Stands a1_ a2_).ev

noncomputable def A_sp_l1Stands : Sh := (.cons (.dat .str) (.cons (.dat (.int .u8)) .nil))

noncomputable def I_sp_l1Stands : List (Nat × OSh) := []

noncomputable def K_sp_l1Stands : RetK := { acts := [], res := [.tmp 4], sh := (.cons (.dat .bool) .nil), obs := [], pins := [] }

noncomputable def D_sp_l1Stands : FD where
  A := A_sp_l1Stands
  ins := I_sp_l1Stands
  lend := []
  R := Bool
  F := fun x => F_sp_l1Stands x.1.1 x.1.2.1
  emb := fun r => ([.dat .bool r], [])

noncomputable def E_sp_l1Stands : Env := envOf []

noncomputable def Z_sp_l1Stands : Nat → Nat → List Nat := fun _ _ => []

noncomputable def O_sp_l1Stands : List (Nat × LD) := [(0, DL_sp_l1Stands_0)]

noncomputable def C_sp_l1Stands : Code := (f77.body).getD .skip

/-! ### 52 loop.example/g01110/spec.l12Record -/

noncomputable def T_sp_l12Record (a1_ : List UInt8) (a2_ : List UInt8) : Tr (Bool) :=
  .t (!(a1_ == ([] : List UInt8)))
    (.c (Bool) (F_sp_l12Bytes a1_ (160 : Int)) fun r1_ =>
      .t r1_
        (.c (Bool) (F_sp_l1Stands a1_ (64 : Int)) fun r2_ =>
          .t (!r2_)
            (.c (Bool) (F_sp_l12Bytes a2_ (200 : Int)) fun r3_ =>
              .l r3_)
            (.l false))
        (.l false))
    (.l false)

noncomputable def F_sp_l12Record (a1_ : List UInt8) (a2_ : List UInt8) : Option (Bool) := (T_sp_l12Record a1_ a2_).ev

noncomputable def A_sp_l12Record : Sh := (.cons (.agg (.cons (.dat .str) (.cons (.dat .str) .nil))) .nil)

noncomputable def I_sp_l12Record : List (Nat × OSh) := []

noncomputable def K_sp_l12Record : RetK := { acts := [], res := [.tmp 2], sh := (.cons (.dat .bool) .nil), obs := [], pins := [] }

noncomputable def D_sp_l12Record : FD where
  A := A_sp_l12Record
  ins := I_sp_l12Record
  lend := []
  R := Bool
  F := fun x => F_sp_l12Record x.1.1.1 x.1.1.2.1
  emb := fun r => ([.dat .bool r], [])

noncomputable def E_sp_l12Record : Env := envOf [(76, D_sp_l12Bytes), (77, D_sp_l1Stands)]

noncomputable def Z_sp_l12Record : Nat → Nat → List Nat := fun _ _ => []

noncomputable def O_sp_l12Record : List (Nat × LD) := []

noncomputable def C_sp_l12Record : Code := (f52.body).getD .skip

/-! ### 79 loop.example/g01110/spec.l1Num -/

noncomputable def T_sp_l1Num (rec_ : (Int) → Option (List UInt8)) (a1_ : Int) : Tr (List UInt8) :=
  .t (decide (a1_ < (0 : Int)))
    (.c (List UInt8) (rec_ (IntKind.wrap .i64 (0 - a1_))) fun r1_ =>
      .g (decide (List.length ([45] : List UInt8) + List.length r1_ ≤ 9223372036854775807)) <|
      .l (([45] : List UInt8) ++ r1_))
    (.t (decide (a1_ < (10 : Int)))
        (.g (decide ((0 : Int) ≤ a1_) && decide (a1_ ≤ (IntKind.wrap .i64 (a1_ + (1 : Int)))) && decide ((IntKind.wrap .i64 (a1_ + (1 : Int))) ≤ ((List.length ([48, 49, 50, 51, 52, 53, 54, 55, 56, 57] : List UInt8) : Nat) : Int))) <|
          .l (List.drop (Int.toNat a1_) (List.take (Int.toNat (IntKind.wrap .i64 (a1_ + (1 : Int)))) ([48, 49, 50, 51, 52, 53, 54, 55, 56, 57] : List UInt8))))
        (.g (!decide ((10 : Int) = 0)) <|
          .c (List UInt8) (rec_ (IntKind.wrap .i64 (Int.tdiv a1_ (10 : Int)))) fun r2_ =>
          .g (!decide ((10 : Int) = 0)) <|
          .g (!decide ((10 : Int) = 0)) <|
          .g (decide ((0 : Int) ≤ (Int.tmod a1_ (10 : Int))) && decide ((Int.tmod a1_ (10 : Int)) ≤ (IntKind.wrap .i64 ((Int.tmod a1_ (10 : Int)) + (1 : Int)))) && decide ((IntKind.wrap .i64 ((Int.tmod a1_ (10 : Int)) + (1 : Int))) ≤ ((List.length ([48, 49, 50, 51, 52, 53, 54, 55, 56, 57] : List UInt8) : Nat) : Int))) <|
          .g (decide (List.length r2_ + List.length (List.drop (Int.toNat (Int.tmod a1_ (10 : Int))) (List.take (Int.toNat (IntKind.wrap .i64 ((Int.tmod a1_ (10 : Int)) + (1 : Int)))) ([48, 49, 50, 51, 52, 53, 54, 55, 56, 57] : List UInt8))) ≤ 9223372036854775807)) <|
          .l (r2_ ++ (List.drop (Int.toNat (Int.tmod a1_ (10 : Int))) (List.take (Int.toNat (IntKind.wrap .i64 ((Int.tmod a1_ (10 : Int)) + (1 : Int)))) ([48, 49, 50, 51, 52, 53, 54, 55, 56, 57] : List UInt8))))))

noncomputable def F_sp_l1Num : Nat → (Int) → Option (List UInt8)
  | 0 => fun _ => none
  | n + 1 => fun a1_ => (T_sp_l1Num (F_sp_l1Num n) a1_).ev

noncomputable def A_sp_l1Num : Sh := (.cons (.dat (.int .i64)) .nil)

noncomputable def I_sp_l1Num : List (Nat × OSh) := []

noncomputable def K_sp_l1Num : RetK := { acts := [], res := [.tmp 2], sh := (.cons (.dat .str) .nil), obs := [], pins := [] }

noncomputable def Dr_sp_l1Num (rec_ : (Int) → Option (List UInt8)) : FD where
  A := A_sp_l1Num
  ins := I_sp_l1Num
  lend := []
  R := List UInt8
  F := fun x => rec_ x.1.1
  emb := fun r => ([.dat .str r], [])

noncomputable def D_sp_l1Num (n : Nat) : FD := Dr_sp_l1Num (F_sp_l1Num n)

noncomputable def E_sp_l1Num (rec_ : (Int) → Option (List UInt8)) : Env := envOf [(79, Dr_sp_l1Num rec_)]

noncomputable def Z_sp_l1Num : Nat → Nat → List Nat := fun _ _ => []

noncomputable def O_sp_l1Num (rec_ : (Int) → Option (List UInt8)) : List (Nat × LD) := []

noncomputable def C_sp_l1Num : Code := (f79.body).getD .skip

/-! ### 100 loop.example/g01110/spec.l1Sum -/

noncomputable def S_sp_l1Sum_0 (k : List UInt8) (v : (Int) × (Int)) : Tr (((Int) × (Int)) ⊕ (Int)) :=
  .t (decide (v.2 < ((List.length k : Nat) : Int)))
    (.g (inR v.2 (List.length k)) <|
      .g (!decide ((999979 : Int) = 0)) <|
      .l (.inl ((Int.tmod (IntKind.wrap .i64 ((IntKind.wrap .i64 ((IntKind.wrap .i64 ((41 : Int) * v.1)) + (IntKind.wrap .i64 ((UInt8.toNat (List.getD k (Int.toNat v.2) 0) : Nat) : Int)))) + (1 : Int))) (999979 : Int)), (IntKind.wrap .i64 (v.2 + (1 : Int))))))
    (.l (.inr v.1))

noncomputable def L_sp_l1Sum_0 (k : List UInt8) (v : (Int) × (Int)) : Option (Int) := iter (fun v => (S_sp_l1Sum_0 k v).ev) v

noncomputable def DL_sp_l1Sum_0 : LD where
  head := { acts := [], S := { slots := [0, 3, 4], sh := (.cons (.dat .str) (.cons (.dat (.int .i64)) (.cons (.dat (.int .i64)) .nil))), obs := [] } }
  exits := [(0, { acts := [], S := { slots := [3], sh := (.cons (.dat (.int .i64)) .nil), obs := [] } })]
  rets := { acts := [], S := { slots := [], sh := .nil, obs := [] } }
  K := List UInt8
  V := (Int) × (Int)
  R := Int
  join := fun k v => ((k, (v.1, (v.2, ()))), ())
  sk := fun t => t.1.1
  sv := fun t => (t.1.2.1, t.1.2.2.1)
  step := S_sp_l1Sum_0
  leaf := fun _ r => .l (.exit 0 (mkSt ({ slots := [3], sh := (.cons (.dat (.int .i64)) .nil), obs := [] }) ((r, ()), ())))

noncomputable def T_sp_l1Sum (a1_ : List UInt8) : Tr (Int) :=
  .c (Int) (L_sp_l1Sum_0 a1_ ((7 : Int), (0 : Int))) fun r5_ =>
  .l r5_

noncomputable def F_sp_l1Sum (a1_ : List UInt8) : Option (Int) := (T_sp_l1Sum a1_).ev

noncomputable def A_sp_l1Sum : Sh := (.cons (.dat .str) .nil)

noncomputable def I_sp_l1Sum : List (Nat × OSh) := []

noncomputable def K_sp_l1Sum : RetK := { acts := [], res := [.tmp 2], sh := (.cons (.dat (.int .i64)) .nil), obs := [], pins := [] }

noncomputable def D_sp_l1Sum : FD where
  A := A_sp_l1Sum
  ins := I_sp_l1Sum
  lend := []
  R := Int
  F := fun x => F_sp_l1Sum x.1.1
  emb := fun r => ([.dat (.int .i64) r], [])

noncomputable def E_sp_l1Sum : Env := envOf []

noncomputable def Z_sp_l1Sum : Nat → Nat → List Nat := fun _ _ => []

noncomputable def O_sp_l1Sum : List (Nat × LD) := [(0, DL_sp_l1Sum_0)]

noncomputable def C_sp_l1Sum : Code := (f100.body).getD .skip

/-! ### 78 loop.example/g01110/spec.l1Seal -/

noncomputable def T_sp_l1Seal (a1_ : List UInt8) : Tr (List UInt8) :=
  .g (decide (List.length a1_ + List.length ([35] : List UInt8) ≤ 9223372036854775807)) <|
  .c (Int) (F_sp_l1Sum a1_) fun r1_ =>
  .c (List UInt8) (F_sp_l1Num 1000000 r1_) fun r2_ =>
  .g (decide (List.length (a1_ ++ ([35] : List UInt8)) + List.length r2_ ≤ 9223372036854775807)) <|
  .l ((a1_ ++ ([35] : List UInt8)) ++ r2_)

noncomputable def F_sp_l1Seal (a1_ : List UInt8) : Option (List UInt8) := (T_sp_l1Seal a1_).ev

noncomputable def A_sp_l1Seal : Sh := (.cons (.dat .str) .nil)

noncomputable def I_sp_l1Seal : List (Nat × OSh) := []

noncomputable def K_sp_l1Seal : RetK := { acts := [], res := [.tmp 2], sh := (.cons (.dat .str) .nil), obs := [], pins := [] }

noncomputable def D_sp_l1Seal : FD where
  A := A_sp_l1Seal
  ins := I_sp_l1Seal
  lend := []
  R := List UInt8
  F := fun x => F_sp_l1Seal x.1.1
  emb := fun r => ([.dat .str r], [])

noncomputable def E_sp_l1Seal : Env := envOf [(100, D_sp_l1Sum), (79, D_sp_l1Num 1000000)]

noncomputable def Z_sp_l1Seal : Nat → Nat → List Nat := fun _ _ => []

noncomputable def O_sp_l1Seal : List (Nat × LD) := []

noncomputable def C_sp_l1Seal : Code := (f78.body).getD .skip

/-! ### 53 loop.example/g01110/spec.l12Line -/

noncomputable def T_sp_l12Line (a1_ : Int) (a2_ : List UInt8) (a3_ : List UInt8) : Tr (List UInt8) :=
  .c (List UInt8) (F_sp_l1Num 1000000 a1_) fun r1_ =>
  .g (decide (List.length r1_ + List.length ([32] : List UInt8) ≤ 9223372036854775807)) <|
  .g (decide (List.length (r1_ ++ ([32] : List UInt8)) + List.length a2_ ≤ 9223372036854775807)) <|
  .g (decide (List.length ((r1_ ++ ([32] : List UInt8)) ++ a2_) + List.length ([64] : List UInt8) ≤ 9223372036854775807)) <|
  .g (decide (List.length (((r1_ ++ ([32] : List UInt8)) ++ a2_) ++ ([64] : List UInt8)) + List.length a3_ ≤ 9223372036854775807)) <|
  .c (List UInt8) (F_sp_l1Seal ((((r1_ ++ ([32] : List UInt8)) ++ a2_) ++ ([64] : List UInt8)) ++ a3_)) fun r2_ =>
  .g (decide (List.length r2_ + List.length ([10] : List UInt8) ≤ 9223372036854775807)) <|
  .l (r2_ ++ ([10] : List UInt8))

noncomputable def F_sp_l12Line (a1_ : Int) (a2_ : List UInt8) (a3_ : List UInt8) : Option (List UInt8) := (T_sp_l12Line a1_ a2_ a3_).ev

noncomputable def A_sp_l12Line : Sh := (.cons (.dat (.int .i64)) (.cons (.agg (.cons (.dat .str) (.cons (.dat .str) .nil))) .nil))

noncomputable def I_sp_l12Line : List (Nat × OSh) := []

noncomputable def K_sp_l12Line : RetK := { acts := [], res := [.tmp 4], sh := (.cons (.dat .str) .nil), obs := [], pins := [] }

noncomputable def D_sp_l12Line : FD where
  A := A_sp_l12Line
  ins := I_sp_l12Line
  lend := []
  R := List UInt8
  F := fun x => F_sp_l12Line x.1.1 x.1.2.1.1 x.1.2.1.2.1
  emb := fun r => ([.dat .str r], [])

noncomputable def E_sp_l12Line : Env := envOf [(79, D_sp_l1Num 1000000), (78, D_sp_l1Seal)]

noncomputable def Z_sp_l12Line : Nat → Nat → List Nat := fun _ _ => []

noncomputable def O_sp_l12Line : List (Nat × LD) := []

noncomputable def C_sp_l12Line : Code := (f53.body).getD .skip

/-! ### 14 loop.example/g01110/spec.EncodeRecord -/

noncomputable def T_sp_EncodeRecord (a1_ : Int) (a2_ : List UInt8) (a3_ : List UInt8) : Tr ((List UInt8) × (Bool)) :=
  .c (Bool) (F_sp_l1In a1_ (0 : Int) (59 : Int)) fun r1_ =>
  .t (!r1_)
    (.l (([] : List UInt8), false))
    (.c (Bool) (F_sp_l12Record a2_ a3_) fun r2_ =>
      .t (!r2_)
        (.l (([] : List UInt8), false))
        (.c (List UInt8) (F_sp_l12Line a1_ a2_ a3_) fun r3_ =>
          .l (r3_, true)))

noncomputable def F_sp_EncodeRecord (a1_ : Int) (a2_ : List UInt8) (a3_ : List UInt8) : Option ((List UInt8) × (Bool)) := (T_sp_EncodeRecord a1_ a2_ a3_).ev

noncomputable def A_sp_EncodeRecord : Sh := (.cons (.dat (.int .i64)) (.cons (.agg (.cons (.dat .str) (.cons (.dat .str) .nil))) .nil))

noncomputable def I_sp_EncodeRecord : List (Nat × OSh) := []

noncomputable def K_sp_EncodeRecord : RetK := { acts := [], res := [.tmp 4, .tmp 5], sh := (.cons (.dat .str) (.cons (.dat .bool) .nil)), obs := [], pins := [] }

noncomputable def D_sp_EncodeRecord : FD where
  A := A_sp_EncodeRecord
  ins := I_sp_EncodeRecord
  lend := []
  R := (List UInt8) × (Bool)
  F := fun x => F_sp_EncodeRecord x.1.1 x.1.2.1.1 x.1.2.1.2.1
  emb := fun r => ([.dat .str r.1, .dat .bool r.2], [])

noncomputable def E_sp_EncodeRecord : Env := envOf [(51, D_sp_l1In), (52, D_sp_l12Record), (53, D_sp_l12Line)]

noncomputable def Z_sp_EncodeRecord : Nat → Nat → List Nat := fun _ _ => []

noncomputable def O_sp_EncodeRecord : List (Nat × LD) := []

noncomputable def C_sp_EncodeRecord : Code := (f14.body).getD .skip

/-! ### 54 loop.example/g01110/impl.between -/

noncomputable def T_im_between (a1_ : Int) (a2_ : Int) (a3_ : Int) : Tr (Bool) :=
  .t (decide (a2_ ≤ a1_))
    (.l (decide (a1_ ≤ a3_)))
    (.l false)

noncomputable def F_im_between (a1_ : Int) (a2_ : Int) (a3_ : Int) : Option (Bool) := (T_im_between a1_ a2_ a3_).ev

noncomputable def A_im_between : Sh := (.cons (.dat (.int .i64)) (.cons (.dat (.int .i64)) (.cons (.dat (.int .i64)) .nil)))

noncomputable def I_im_between : List (Nat × OSh) := []

noncomputable def K_im_between : RetK := { acts := [], res := [.tmp 6], sh := (.cons (.dat .bool) .nil), obs := [], pins := [] }

noncomputable def D_im_between : FD where
  A := A_im_between
  ins := I_im_between
  lend := []
  R := Bool
  F := fun x => F_im_between x.1.1 x.1.2.1 x.1.2.2.1
  emb := fun r => ([.dat .bool r], [])

noncomputable def E_im_between : Env := envOf []

noncomputable def Z_im_between : Nat → Nat → List Nat := fun _ _ => []

noncomputable def O_im_between : List (Nat × LD) := []

noncomputable def C_im_between : Code := (f54.body).getD .skip

/-! ### 67 loop.example/g01110/impl.isPlain -/

noncomputable def S_im_isPlain_0 (k : (List UInt8) × ((Int) × (Int))) (v : Int) : Tr ((Int) ⊕ ((Unit) ⊕ (Unit))) :=
  .t (decide (v < k.2.2))
    (.g (inR v (List.length k.1)) <|
      .t (decide (((UInt8.toNat (List.getD k.1 (Int.toNat v) 0) : Nat) : Int) < (32 : Int)))
        (.l (.inr (.inr ())))
        (.g (inR v (List.length k.1)) <|
          .t (decide ((126 : Int) < ((UInt8.toNat (List.getD k.1 (Int.toNat v) 0) : Nat) : Int)))
            (.l (.inr (.inr ())))
            (.g (inR v (List.length k.1)) <|
              .t (((UInt8.toNat (List.getD k.1 (Int.toNat v) 0) : Nat) : Int) == (35 : Int))
                (.l (.inr (.inr ())))
                (.l (.inl (IntKind.wrap .i64 (v + (1 : Int))))))))
    (.l (.inr (.inl ())))

noncomputable def L_im_isPlain_0 (k : (List UInt8) × ((Int) × (Int))) (v : Int) : Option ((Unit) ⊕ (Unit)) := iter (fun v => (S_im_isPlain_0 k v).ev) v

noncomputable def DL_im_isPlain_0 : LD where
  head := { acts := [], S := { slots := [0, 1, 7, 8], sh := (.cons (.dat .str) (.cons (.dat (.int .i64)) (.cons (.dat (.int .i64)) (.cons (.dat (.int .i64)) .nil)))), obs := [] } }
  exits := [(0, { acts := [], S := { slots := [0, 1], sh := (.cons (.dat .str) (.cons (.dat (.int .i64)) .nil)), obs := [] } })]
  rets := { acts := [], S := { slots := [4], sh := (.cons (.dat .bool) .nil), obs := [] } }
  K := (List UInt8) × ((Int) × (Int))
  V := Int
  R := (Unit) ⊕ (Unit)
  join := fun k v => ((k.1, (k.2.1, (k.2.2, (v, ())))), ())
  sk := fun t => (t.1.1, (t.1.2.1, t.1.2.2.1))
  sv := fun t => t.1.2.2.2.1
  step := S_im_isPlain_0
  leaf := fun k r => .s (Unit) (Unit) r (fun _ => .l (.exit 0 (mkSt ({ slots := [0, 1], sh := (.cons (.dat .str) (.cons (.dat (.int .i64)) .nil)), obs := [] }) ((k.1, (k.2.1, ())), ())))) (fun _ => .l (.ret (mkSt ({ slots := [4], sh := (.cons (.dat .bool) .nil), obs := [] }) ((false, ()), ()))))

noncomputable def T_im_isPlain (a1_ : List UInt8) (a2_ : Int) : Tr (Bool) :=
  .c ((Unit) ⊕ (Unit)) (L_im_isPlain_0 (a1_, (a2_, ((List.length a1_ : Nat) : Int))) (0 : Int)) fun r8_ =>
  .s (Unit) (Unit) r8_
    (fun _ => .l (decide (((List.length a1_ : Nat) : Int) ≤ a2_)))
    (fun _ => .l false)

noncomputable def F_im_isPlain (a1_ : List UInt8) (a2_ : Int) : Option (Bool) := (T_im_isPlain a1_ a2_).ev

noncomputable def A_im_isPlain : Sh := (.cons (.dat .str) (.cons (.dat (.int .i64)) .nil))

noncomputable def I_im_isPlain : List (Nat × OSh) := []

noncomputable def K_im_isPlain : RetK := { acts := [], res := [.tmp 4], sh := (.cons (.dat .bool) .nil), obs := [], pins := [] }

noncomputable def D_im_isPlain : FD where
  A := A_im_isPlain
  ins := I_im_isPlain
  lend := []
  R := Bool
  F := fun x => F_im_isPlain x.1.1 x.1.2.1
  emb := fun r => ([.dat .bool r], [])

noncomputable def E_im_isPlain : Env := envOf []

noncomputable def Z_im_isPlain : Nat → Nat → List Nat := fun _ _ => []

noncomputable def O_im_isPlain : List (Nat × LD) := [(0, DL_im_isPlain_0)]

noncomputable def C_im_isPlain : Code := (f67.body).getD .skip

/-! ### 117 internal/bytealg.IndexByteString -/

noncomputable def F_internal_bytealg_IndexByteString (a1_ : List UInt8) (a2_ : Int) : Option (Int) := some (idxByte a1_ a2_)

noncomputable def D_internal_bytealg_IndexByteString : FD := fdIndexByte

/-! ### 102 internal/stringslite.IndexByte -/

noncomputable def T_internal_stringslite_IndexByte (a1_ : List UInt8) (a2_ : Int) : Tr (Int) :=
  .c (Int) (F_internal_bytealg_IndexByteString a1_ a2_) fun r1_ =>
  .l r1_

noncomputable def F_internal_stringslite_IndexByte (a1_ : List UInt8) (a2_ : Int) : Option (Int) := (T_internal_stringslite_IndexByte a1_ a2_).ev

noncomputable def A_internal_stringslite_IndexByte : Sh := (.cons (.dat .str) (.cons (.dat (.int .u8)) .nil))

noncomputable def I_internal_stringslite_IndexByte : List (Nat × OSh) := []

noncomputable def K_internal_stringslite_IndexByte : RetK := { acts := [], res := [.tmp 4], sh := (.cons (.dat (.int .i64)) .nil), obs := [], pins := [] }

noncomputable def D_internal_stringslite_IndexByte : FD where
  A := A_internal_stringslite_IndexByte
  ins := I_internal_stringslite_IndexByte
  lend := []
  R := Int
  F := fun x => F_internal_stringslite_IndexByte x.1.1 x.1.2.1
  emb := fun r => ([.dat (.int .i64) r], [])

noncomputable def E_internal_stringslite_IndexByte : Env := envOf [(117, D_internal_bytealg_IndexByteString)]

noncomputable def Z_internal_stringslite_IndexByte : Nat → Nat → List Nat := fun _ _ => []

noncomputable def O_internal_stringslite_IndexByte : List (Nat × LD) := []

noncomputable def C_internal_stringslite_IndexByte : Code := (f102.body).getD .skip

/-! ### 104 internal/stringslite.Index -/

noncomputable def T_internal_stringslite_Index (a1_ : List UInt8) (a2_ : List UInt8) : Tr (Int) :=
  .t (((List.length a2_ : Nat) : Int) == (0 : Int))
    (.l (0 : Int))
    (.t (a2_ == a1_)
        (.l (0 : Int))
        (.t (((List.length a2_ : Nat) : Int) == (1 : Int))
            (.g (inR (0 : Int) (List.length a2_)) <|
              .c (Int) (F_internal_stringslite_IndexByte a1_ ((UInt8.toNat (List.getD a2_ (Int.toNat (0 : Int)) 0) : Nat) : Int)) fun r1_ =>
              .l r1_)
            (.g (decide (((List.length a1_ : Nat) : Int) ≤ ((List.length a2_ : Nat) : Int))) <|
              .l (-1 : Int))))

noncomputable def F_internal_stringslite_Index (a1_ : List UInt8) (a2_ : List UInt8) : Option (Int) := (T_internal_stringslite_Index a1_ a2_).ev

noncomputable def A_internal_stringslite_Index : Sh := (.cons (.dat .str) (.cons (.dat .str) .nil))

noncomputable def I_internal_stringslite_Index : List (Nat × OSh) := []

noncomputable def K_internal_stringslite_Index : RetK := { acts := [], res := [.tmp 4], sh := (.cons (.dat (.int .i64)) .nil), obs := [], pins := [] }

noncomputable def D_internal_stringslite_Index : FD where
  A := A_internal_stringslite_Index
  ins := I_internal_stringslite_Index
  lend := []
  R := Int
  F := fun x => F_internal_stringslite_Index x.1.1 x.1.2.1
  emb := fun r => ([.dat (.int .i64) r], [])

noncomputable def E_internal_stringslite_Index : Env := envOf [(102, D_internal_stringslite_IndexByte)]

noncomputable def Z_internal_stringslite_Index : Nat → Nat → List Nat := fun _ _ => []

noncomputable def O_internal_stringslite_Index : List (Nat × LD) := []

noncomputable def C_internal_stringslite_Index : Code := (f104.body).getD .skip

/-! ### 89 strings.Index -/

noncomputable def T_strings_Index (a1_ : List UInt8) (a2_ : List UInt8) : Tr (Int) :=
  .c (Int) (F_internal_stringslite_Index a1_ a2_) fun r1_ =>
  .l r1_

noncomputable def F_strings_Index (a1_ : List UInt8) (a2_ : List UInt8) : Option (Int) := (T_strings_Index a1_ a2_).ev

noncomputable def A_strings_Index : Sh := (.cons (.dat .str) (.cons (.dat .str) .nil))

noncomputable def I_strings_Index : List (Nat × OSh) := []

noncomputable def K_strings_Index : RetK := { acts := [], res := [.tmp 4], sh := (.cons (.dat (.int .i64)) .nil), obs := [], pins := [] }

noncomputable def D_strings_Index : FD where
  A := A_strings_Index
  ins := I_strings_Index
  lend := []
  R := Int
  F := fun x => F_strings_Index x.1.1 x.1.2.1
  emb := fun r => ([.dat (.int .i64) r], [])

noncomputable def E_strings_Index : Env := envOf [(104, D_internal_stringslite_Index)]

noncomputable def Z_strings_Index : Nat → Nat → List Nat := fun _ _ => []

noncomputable def O_strings_Index : List (Nat × LD) := []

noncomputable def C_strings_Index : Code := (f89.body).getD .skip

/-! ### 68 strings.Contains -/

noncomputable def T_strings_Contains (a1_ : List UInt8) (a2_ : List UInt8) : Tr (Bool) :=
  .c (Int) (F_strings_Index a1_ a2_) fun r1_ =>
  .l (decide ((0 : Int) ≤ r1_))

noncomputable def F_strings_Contains (a1_ : List UInt8) (a2_ : List UInt8) : Option (Bool) := (T_strings_Contains a1_ a2_).ev

noncomputable def A_strings_Contains : Sh := (.cons (.dat .str) (.cons (.dat .str) .nil))

noncomputable def I_strings_Contains : List (Nat × OSh) := []

noncomputable def K_strings_Contains : RetK := { acts := [], res := [.tmp 4], sh := (.cons (.dat .bool) .nil), obs := [], pins := [] }

noncomputable def D_strings_Contains : FD where
  A := A_strings_Contains
  ins := I_strings_Contains
  lend := []
  R := Bool
  F := fun x => F_strings_Contains x.1.1 x.1.2.1
  emb := fun r => ([.dat .bool r], [])

noncomputable def E_strings_Contains : Env := envOf [(89, D_strings_Index)]

noncomputable def Z_strings_Contains : Nat → Nat → List Nat := fun _ _ => []

noncomputable def O_strings_Contains : List (Nat × LD) := []

noncomputable def C_strings_Contains : Code := (f68.body).getD .skip

/-! ### 41 loop.example/g01110/impl.IsValidRecord -/

noncomputable def T_im_IsValidRecord (a1_ : List UInt8) (a2_ : List UInt8) : Tr (Bool) :=
  .t (!(a1_ == ([] : List UInt8)))
    (.c (Bool) (F_im_isPlain a1_ (160 : Int)) fun r1_ =>
      .t r1_
        (.c (Bool) (F_im_isPlain a2_ (200 : Int)) fun r2_ =>
          .t r2_
            (.c (Bool) (F_strings_Contains a1_ ([64] : List UInt8)) fun r3_ =>
              .l (!r3_))
            (.l false))
        (.l false))
    (.l false)

noncomputable def F_im_IsValidRecord (a1_ : List UInt8) (a2_ : List UInt8) : Option (Bool) := (T_im_IsValidRecord a1_ a2_).ev

noncomputable def A_im_IsValidRecord : Sh := (.cons (.agg (.cons (.dat .str) (.cons (.dat .str) .nil))) .nil)

noncomputable def I_im_IsValidRecord : List (Nat × OSh) := []

noncomputable def K_im_IsValidRecord : RetK := { acts := [], res := [.tmp 2], sh := (.cons (.dat .bool) .nil), obs := [], pins := [] }

noncomputable def D_im_IsValidRecord : FD where
  A := A_im_IsValidRecord
  ins := I_im_IsValidRecord
  lend := []
  R := Bool
  F := fun x => F_im_IsValidRecord x.1.1.1 x.1.1.2.1
  emb := fun r => ([.dat .bool r], [])

noncomputable def E_im_IsValidRecord : Env := envOf [(67, D_im_isPlain), (68, D_strings_Contains)]

noncomputable def Z_im_IsValidRecord : Nat → Nat → List Nat := fun _ _ => []

noncomputable def O_im_IsValidRecord : List (Nat × LD) := []

noncomputable def C_im_IsValidRecord : Code := (f41.body).getD .skip

/-! ### 56 strconv.Itoa -/

noncomputable def F_strconv_Itoa (a1_ : Int) : Option (List UInt8) := itoaF a1_

noncomputable def D_strconv_Itoa : FD := fdItoa

/-! ### 80 loop.example/g01110/impl.checksum -/

noncomputable def S_im_checksum_0 (k : (List UInt8) × (Int)) (v : (Int) × (Int)) : Tr (((Int) × (Int)) ⊕ (Int)) :=
  .t (decide (v.2 < k.2))
    (.g (inR v.2 (List.length k.1)) <|
      .g (!decide ((999979 : Int) = 0)) <|
      .l (.inl ((Int.tmod (IntKind.wrap .i64 ((IntKind.wrap .i64 ((IntKind.wrap .i64 ((41 : Int) * v.1)) + (IntKind.wrap .i64 ((UInt8.toNat (List.getD k.1 (Int.toNat v.2) 0) : Nat) : Int)))) + (1 : Int))) (999979 : Int)), (IntKind.wrap .i64 (v.2 + (1 : Int))))))
    (.l (.inr v.1))

noncomputable def L_im_checksum_0 (k : (List UInt8) × (Int)) (v : (Int) × (Int)) : Option (Int) := iter (fun v => (S_im_checksum_0 k v).ev) v

noncomputable def DL_im_checksum_0 : LD where
  head := { acts := [], S := { slots := [0, 3, 6, 7], sh := (.cons (.dat .str) (.cons (.dat (.int .i64)) (.cons (.dat (.int .i64)) (.cons (.dat (.int .i64)) .nil)))), obs := [] } }
  exits := [(0, { acts := [], S := { slots := [3], sh := (.cons (.dat (.int .i64)) .nil), obs := [] } })]
  rets := { acts := [], S := { slots := [], sh := .nil, obs := [] } }
  K := (List UInt8) × (Int)
  V := (Int) × (Int)
  R := Int
  join := fun k v => ((k.1, (v.1, (k.2, (v.2, ())))), ())
  sk := fun t => (t.1.1, t.1.2.2.1)
  sv := fun t => (t.1.2.1, t.1.2.2.2.1)
  step := S_im_checksum_0
  leaf := fun _ r => .l (.exit 0 (mkSt ({ slots := [3], sh := (.cons (.dat (.int .i64)) .nil), obs := [] }) ((r, ()), ())))

noncomputable def T_im_checksum (a1_ : List UInt8) : Tr (Int) :=
  .c (Int) (L_im_checksum_0 (a1_, ((List.length a1_ : Nat) : Int)) ((7 : Int), (0 : Int))) fun r6_ =>
  .l r6_

noncomputable def F_im_checksum (a1_ : List UInt8) : Option (Int) := (T_im_checksum a1_).ev

noncomputable def A_im_checksum : Sh := (.cons (.dat .str) .nil)

noncomputable def I_im_checksum : List (Nat × OSh) := []

noncomputable def K_im_checksum : RetK := { acts := [], res := [.tmp 2], sh := (.cons (.dat (.int .i64)) .nil), obs := [], pins := [] }

noncomputable def D_im_checksum : FD where
  A := A_im_checksum
  ins := I_im_checksum
  lend := []
  R := Int
  F := fun x => F_im_checksum x.1.1
  emb := fun r => ([.dat (.int .i64) r], [])

noncomputable def E_im_checksum : Env := envOf []

noncomputable def Z_im_checksum : Nat → Nat → List Nat := fun _ _ => []

noncomputable def O_im_checksum : List (Nat × LD) := [(0, DL_im_checksum_0)]

noncomputable def C_im_checksum : Code := (f80.body).getD .skip

/-! ### 55 loop.example/g01110/impl.AppendChecksum -/

noncomputable def T_im_AppendChecksum (a1_ : List UInt8) : Tr ((List UInt8) × (Bool)) :=
  .t (decide ((4000 : Int) < ((List.length a1_ : Nat) : Int)))
    (.l (([] : List UInt8), false))
    (.c (Bool) (F_strings_Contains a1_ ([35] : List UInt8)) fun r1_ =>
      .t r1_
        (.l (([] : List UInt8), false))
        (.g (decide (List.length a1_ + List.length ([35] : List UInt8) ≤ 9223372036854775807)) <|
          .c (Int) (F_im_checksum a1_) fun r2_ =>
          .c (List UInt8) (F_strconv_Itoa r2_) fun r3_ =>
          .g (decide (List.length (a1_ ++ ([35] : List UInt8)) + List.length r3_ ≤ 9223372036854775807)) <|
          .t (decide ((4000 : Int) < ((List.length ((a1_ ++ ([35] : List UInt8)) ++ r3_) : Nat) : Int)))
            (.l (([] : List UInt8), false))
            (.l (((a1_ ++ ([35] : List UInt8)) ++ r3_), true))))

noncomputable def F_im_AppendChecksum (a1_ : List UInt8) : Option ((List UInt8) × (Bool)) := (T_im_AppendChecksum a1_).ev

noncomputable def A_im_AppendChecksum : Sh := (.cons (.dat .str) .nil)

noncomputable def I_im_AppendChecksum : List (Nat × OSh) := []

noncomputable def K_im_AppendChecksum : RetK := { acts := [], res := [.tmp 2, .tmp 3], sh := (.cons (.dat .str) (.cons (.dat .bool) .nil)), obs := [], pins := [] }

noncomputable def D_im_AppendChecksum : FD where
  A := A_im_AppendChecksum
  ins := I_im_AppendChecksum
  lend := []
  R := (List UInt8) × (Bool)
  F := fun x => F_im_AppendChecksum x.1.1
  emb := fun r => ([.dat .str r.1, .dat .bool r.2], [])

noncomputable def E_im_AppendChecksum : Env := envOf [(68, D_strings_Contains), (80, D_im_checksum), (56, D_strconv_Itoa)]

noncomputable def Z_im_AppendChecksum : Nat → Nat → List Nat := fun _ _ => []

noncomputable def O_im_AppendChecksum : List (Nat × LD) := []

noncomputable def C_im_AppendChecksum : Code := (f55.body).getD .skip

/-! ### 16 loop.example/g01110/impl.EncodeRecord -/

noncomputable def T_im_EncodeRecord (a1_ : Int) (a2_ : List UInt8) (a3_ : List UInt8) : Tr ((List UInt8) × (Bool)) :=
  .c (Bool) (F_im_between a1_ (0 : Int) (59 : Int)) fun r1_ =>
  .t (!r1_)
    (.l (([] : List UInt8), false))
    (.c (Bool) (F_im_IsValidRecord a2_ a3_) fun r2_ =>
      .t (!r2_)
        (.l (([] : List UInt8), false))
        (.c (List UInt8) (F_strconv_Itoa a1_) fun r3_ =>
          .g (decide (List.length r3_ + List.length ([32] : List UInt8) ≤ 9223372036854775807)) <|
          .g (decide (List.length (r3_ ++ ([32] : List UInt8)) + List.length a2_ ≤ 9223372036854775807)) <|
          .g (decide (List.length ((r3_ ++ ([32] : List UInt8)) ++ a2_) + List.length ([64] : List UInt8) ≤ 9223372036854775807)) <|
          .g (decide (List.length (((r3_ ++ ([32] : List UInt8)) ++ a2_) ++ ([64] : List UInt8)) + List.length a3_ ≤ 9223372036854775807)) <|
          .c ((List UInt8) × (Bool)) (F_im_AppendChecksum ((((r3_ ++ ([32] : List UInt8)) ++ a2_) ++ ([64] : List UInt8)) ++ a3_)) fun r4_ =>
          .g (decide (List.length r4_.1 + List.length ([10] : List UInt8) ≤ 9223372036854775807)) <|
          .l ((r4_.1 ++ ([10] : List UInt8)), r4_.2)))

noncomputable def F_im_EncodeRecord (a1_ : Int) (a2_ : List UInt8) (a3_ : List UInt8) : Option ((List UInt8) × (Bool)) := (T_im_EncodeRecord a1_ a2_ a3_).ev

noncomputable def A_im_EncodeRecord : Sh := (.cons (.dat (.int .i64)) (.cons (.agg (.cons (.dat .str) (.cons (.dat .str) .nil))) .nil))

noncomputable def I_im_EncodeRecord : List (Nat × OSh) := []

noncomputable def K_im_EncodeRecord : RetK := { acts := [], res := [.tmp 4, .tmp 5], sh := (.cons (.dat .str) (.cons (.dat .bool) .nil)), obs := [], pins := [] }

noncomputable def D_im_EncodeRecord : FD where
  A := A_im_EncodeRecord
  ins := I_im_EncodeRecord
  lend := []
  R := (List UInt8) × (Bool)
  F := fun x => F_im_EncodeRecord x.1.1 x.1.2.1.1 x.1.2.1.2.1
  emb := fun r => ([.dat .str r.1, .dat .bool r.2], [])

noncomputable def E_im_EncodeRecord : Env := envOf [(54, D_im_between), (41, D_im_IsValidRecord), (56, D_strconv_Itoa), (55, D_im_AppendChecksum)]

noncomputable def Z_im_EncodeRecord : Nat → Nat → List Nat := fun _ _ => []

noncomputable def O_im_EncodeRecord : List (Nat × LD) := []

noncomputable def C_im_EncodeRecord : Code := (f16.body).getD .skip

/-! ### 3 loop.example/g01110/laws.FnExactEncodeRecord -/

noncomputable def T_lw_FnExactEncodeRecord (a1_ : Int) (a2_ : List UInt8) (a3_ : List UInt8) : Tr (Bool) :=
  .c (Int) (F_lw_szLogRecord a2_ a3_ (1048576 : Int)) fun r1_ =>
  .t (decide (r1_ < (0 : Int)))
    (.l true)
    (.c ((List UInt8) × (List UInt8)) (F_lw_toLogRecord a2_ a3_) fun r2_ =>
      .c ((List UInt8) × (Bool)) (F_sp_EncodeRecord a1_ r2_.1 r2_.2) fun r3_ =>
      .c ((List UInt8) × (List UInt8)) (F_lw_toLogRecord a2_ a3_) fun r4_ =>
      .c ((List UInt8) × (Bool)) (F_im_EncodeRecord a1_ r4_.1 r4_.2) fun r5_ =>
      .t (!(r5_.1 == r3_.1))
        (.l false)
        (.t (!(r5_.2 == r3_.2))
            (.l false)
            (.l true)))

noncomputable def F_lw_FnExactEncodeRecord (a1_ : Int) (a2_ : List UInt8) (a3_ : List UInt8) : Option (Bool) := (T_lw_FnExactEncodeRecord a1_ a2_ a3_).ev

noncomputable def A_lw_FnExactEncodeRecord : Sh := (.cons (.dat (.int .i64)) (.cons (.agg (.cons (.dat .str) (.cons (.dat .str) .nil))) .nil))

noncomputable def I_lw_FnExactEncodeRecord : List (Nat × OSh) := []

noncomputable def K_lw_FnExactEncodeRecord : RetK := { acts := [], res := [.tmp 4], sh := (.cons (.dat .bool) .nil), obs := [], pins := [] }

noncomputable def D_lw_FnExactEncodeRecord : FD where
  A := A_lw_FnExactEncodeRecord
  ins := I_lw_FnExactEncodeRecord
  lend := []
  R := Bool
  F := fun x => F_lw_FnExactEncodeRecord x.1.1 x.1.2.1.1 x.1.2.1.2.1
  emb := fun r => ([.dat .bool r], [])

noncomputable def E_lw_FnExactEncodeRecord : Env := envOf [(13, D_lw_szLogRecord), (15, D_lw_toLogRecord), (14, D_sp_EncodeRecord), (16, D_im_EncodeRecord)]

noncomputable def Z_lw_FnExactEncodeRecord : Nat → Nat → List Nat := fun _ _ => []

noncomputable def O_lw_FnExactEncodeRecord : List (Nat × LD) := []

noncomputable def C_lw_FnExactEncodeRecord : Code := (f3.body).getD .skip

/-! ### 82 loop.example/g01110/spec.l1Split -/

noncomputable def S_sp_l1Split_0 (k : (List UInt8) × (Int)) (v : (Int) × ((Int) × (List (List UInt8)))) : Tr (((Int) × ((Int) × (List (List UInt8)))) ⊕ ((Int) × (List (List UInt8)))) :=
  .t (decide (v.2.1 < ((List.length k.1 : Nat) : Int)))
    (.g (inR v.2.1 (List.length k.1)) <|
      .t (((UInt8.toNat (List.getD k.1 (Int.toNat v.2.1) 0) : Nat) : Int) == k.2)
        (.g (decide ((0 : Int) ≤ v.1) && decide (v.1 ≤ v.2.1) && decide (v.2.1 ≤ ((List.length k.1 : Nat) : Int))) <|
          .g (decide ((List.length v.2.2 + List.length ([(List.drop (Int.toNat v.1) (List.take (Int.toNat v.2.1) k.1))] : List (List UInt8))) * 16 ≤ 140737488355328)) <|
          .l (.inl ((IntKind.wrap .i64 (v.2.1 + (1 : Int))), ((IntKind.wrap .i64 (v.2.1 + (1 : Int))), (v.2.2 ++ ([(List.drop (Int.toNat v.1) (List.take (Int.toNat v.2.1) k.1))] : List (List UInt8)))))))
        (.l (.inl (v.1, ((IntKind.wrap .i64 (v.2.1 + (1 : Int))), v.2.2)))))
    (.l (.inr (v.1, v.2.2)))

noncomputable def L_sp_l1Split_0 (k : (List UInt8) × (Int)) (v : (Int) × ((Int) × (List (List UInt8)))) : Option ((Int) × (List (List UInt8))) := iter (fun v => (S_sp_l1Split_0 k v).ev) v

noncomputable def DL_sp_l1Split_0 : LD where
  head := { acts := [], S := { slots := [0, 1, 5, 6, 7], sh := (.cons (.dat .str) (.cons (.dat (.int .u8)) (.cons (.arr 8) (.cons (.dat (.int .i64)) (.cons (.dat (.int .i64)) .nil))))), obs := [(8, .arr 9 .str)] } }
  exits := [(0, { acts := [], S := { slots := [0, 5, 6], sh := (.cons (.dat .str) (.cons (.arr 8) (.cons (.dat (.int .i64)) .nil))), obs := [(8, .arr 9 .str)] } })]
  rets := { acts := [], S := { slots := [], sh := .nil, obs := [] } }
  K := (List UInt8) × (Int)
  V := (Int) × ((Int) × (List (List UInt8)))
  R := (Int) × (List (List UInt8))
  join := fun k v => ((k.1, (k.2, ((), (v.1, (v.2.1, ()))))), (v.2.2, ()))
  sk := fun t => (t.1.1, t.1.2.1)
  sv := fun t => (t.1.2.2.2.1, (t.1.2.2.2.2.1, t.2.1))
  step := S_sp_l1Split_0
  leaf := fun k r => .l (.exit 0 (mkSt ({ slots := [0, 5, 6], sh := (.cons (.dat .str) (.cons (.arr 8) (.cons (.dat (.int .i64)) .nil))), obs := [(8, .arr 9 .str)] }) ((k.1, ((), (r.1, ()))), (r.2, ()))))

noncomputable def T_sp_l1Split (a1_ : List UInt8) (a2_ : Int) : Tr (List (List UInt8)) :=
  .c ((Int) × (List (List UInt8))) (L_sp_l1Split_0 (a1_, a2_) ((0 : Int), ((0 : Int), ([] : List (List UInt8))))) fun r9_ =>
  .g (decide ((0 : Int) ≤ r9_.1) && decide (r9_.1 ≤ ((List.length a1_ : Nat) : Int))) <|
  .g (decide ((List.length r9_.2 + List.length ([(List.drop (Int.toNat r9_.1) (List.take (List.length a1_) a1_))] : List (List UInt8))) * 16 ≤ 140737488355328)) <|
  .l (r9_.2 ++ ([(List.drop (Int.toNat r9_.1) (List.take (List.length a1_) a1_))] : List (List UInt8)))

noncomputable def F_sp_l1Split (a1_ : List UInt8) (a2_ : Int) : Option (List (List UInt8)) := (T_sp_l1Split a1_ a2_).ev

noncomputable def A_sp_l1Split : Sh := (.cons (.dat .str) (.cons (.dat (.int .u8)) .nil))

noncomputable def I_sp_l1Split : List (Nat × OSh) := []

noncomputable def K_sp_l1Split : RetK := { acts := [.ren 8 0], res := [.tmp 4], sh := (.cons (.arr 0) .nil), obs := [(0, .arr 9 .str)], pins := [] }

noncomputable def D_sp_l1Split : FD where
  A := A_sp_l1Split
  ins := I_sp_l1Split
  lend := []
  R := List (List UInt8)
  F := fun x => F_sp_l1Split x.1.1 x.1.2.1
  emb := fun r => ([.arr 0], [(0, .arr 9 .str r)])

noncomputable def E_sp_l1Split : Env := envOf []

noncomputable def Z_sp_l1Split : Nat → Nat → List Nat := fun _ _ => []

noncomputable def O_sp_l1Split : List (Nat × LD) := [(0, DL_sp_l1Split_0)]

noncomputable def C_sp_l1Split : Code := (f82.body).getD .skip

/-! ### 83 loop.example/g01110/spec.l12Decode -/

noncomputable def T_sp_l12Decode (a1_ : List UInt8) (a2_ : Int) : Tr ((List UInt8) × ((List UInt8) × (Bool))) :=
  .c (List UInt8) (F_sp_l1Num 1000000 a2_) fun r1_ =>
  .g (decide (List.length r1_ + List.length ([32] : List UInt8) ≤ 9223372036854775807)) <|
  .c (List (List UInt8)) (F_sp_l1Split a1_ (35 : Int)) fun r2_ =>
  .g (inR (0 : Int) (List.length r2_)) <|
  .g (decide ((Int.toNat (0 : Int)) < List.length r2_)) <|
  .t (decide (((List.length (List.getD r2_ (Int.toNat (0 : Int)) ([] : List UInt8)) : Nat) : Int) < ((List.length (r1_ ++ ([32] : List UInt8)) : Nat) : Int)))
    (.l (([] : List UInt8), (([] : List UInt8), false)))
    (.g (decide ((0 : Int) ≤ ((List.length (r1_ ++ ([32] : List UInt8)) : Nat) : Int)) && decide (((List.length (r1_ ++ ([32] : List UInt8)) : Nat) : Int) ≤ ((List.length (List.getD r2_ (Int.toNat (0 : Int)) ([] : List UInt8)) : Nat) : Int))) <|
      .t (!((List.drop 0 (List.take (Int.toNat ((List.length (r1_ ++ ([32] : List UInt8)) : Nat) : Int)) (List.getD r2_ (Int.toNat (0 : Int)) ([] : List UInt8)))) == (r1_ ++ ([32] : List UInt8))))
        (.l (([] : List UInt8), (([] : List UInt8), false)))
        (.g (decide ((0 : Int) ≤ ((List.length (r1_ ++ ([32] : List UInt8)) : Nat) : Int)) && decide (((List.length (r1_ ++ ([32] : List UInt8)) : Nat) : Int) ≤ ((List.length (List.getD r2_ (Int.toNat (0 : Int)) ([] : List UInt8)) : Nat) : Int))) <|
          .c (List (List UInt8)) (F_sp_l1Split (List.drop (Int.toNat ((List.length (r1_ ++ ([32] : List UInt8)) : Nat) : Int)) (List.take (List.length (List.getD r2_ (Int.toNat (0 : Int)) ([] : List UInt8))) (List.getD r2_ (Int.toNat (0 : Int)) ([] : List UInt8)))) (64 : Int)) fun r3_ =>
          .g (inR (0 : Int) (List.length r3_)) <|
          .g (decide ((Int.toNat (0 : Int)) < List.length r3_)) <|
          .t (((List.length (List.getD r3_ (Int.toNat (0 : Int)) ([] : List UInt8)) : Nat) : Int) == ((List.length (List.drop (Int.toNat ((List.length (r1_ ++ ([32] : List UInt8)) : Nat) : Int)) (List.take (List.length (List.getD r2_ (Int.toNat (0 : Int)) ([] : List UInt8))) (List.getD r2_ (Int.toNat (0 : Int)) ([] : List UInt8)))) : Nat) : Int))
            (.l (([] : List UInt8), (([] : List UInt8), false)))
            (.g (decide ((0 : Int) ≤ (IntKind.wrap .i64 (((List.length (List.getD r3_ (Int.toNat (0 : Int)) ([] : List UInt8)) : Nat) : Int) + (1 : Int)))) && decide ((IntKind.wrap .i64 (((List.length (List.getD r3_ (Int.toNat (0 : Int)) ([] : List UInt8)) : Nat) : Int) + (1 : Int))) ≤ ((List.length (List.drop (Int.toNat ((List.length (r1_ ++ ([32] : List UInt8)) : Nat) : Int)) (List.take (List.length (List.getD r2_ (Int.toNat (0 : Int)) ([] : List UInt8))) (List.getD r2_ (Int.toNat (0 : Int)) ([] : List UInt8)))) : Nat) : Int))) <|
              .c (Bool) (F_sp_l12Record (List.getD r3_ (Int.toNat (0 : Int)) ([] : List UInt8)) (List.drop (Int.toNat (IntKind.wrap .i64 (((List.length (List.getD r3_ (Int.toNat (0 : Int)) ([] : List UInt8)) : Nat) : Int) + (1 : Int)))) (List.take (List.length (List.drop (Int.toNat ((List.length (r1_ ++ ([32] : List UInt8)) : Nat) : Int)) (List.take (List.length (List.getD r2_ (Int.toNat (0 : Int)) ([] : List UInt8))) (List.getD r2_ (Int.toNat (0 : Int)) ([] : List UInt8))))) (List.drop (Int.toNat ((List.length (r1_ ++ ([32] : List UInt8)) : Nat) : Int)) (List.take (List.length (List.getD r2_ (Int.toNat (0 : Int)) ([] : List UInt8))) (List.getD r2_ (Int.toNat (0 : Int)) ([] : List UInt8))))))) fun r4_ =>
              .t r4_
                (.c (List UInt8) (F_sp_l12Line a2_ (List.getD r3_ (Int.toNat (0 : Int)) ([] : List UInt8)) (List.drop (Int.toNat (IntKind.wrap .i64 (((List.length (List.getD r3_ (Int.toNat (0 : Int)) ([] : List UInt8)) : Nat) : Int) + (1 : Int)))) (List.take (List.length (List.drop (Int.toNat ((List.length (r1_ ++ ([32] : List UInt8)) : Nat) : Int)) (List.take (List.length (List.getD r2_ (Int.toNat (0 : Int)) ([] : List UInt8))) (List.getD r2_ (Int.toNat (0 : Int)) ([] : List UInt8))))) (List.drop (Int.toNat ((List.length (r1_ ++ ([32] : List UInt8)) : Nat) : Int)) (List.take (List.length (List.getD r2_ (Int.toNat (0 : Int)) ([] : List UInt8))) (List.getD r2_ (Int.toNat (0 : Int)) ([] : List UInt8))))))) fun r5_ =>
                  .g (decide (List.length a1_ + List.length ([10] : List UInt8) ≤ 9223372036854775807)) <|
                  .l ((List.getD r3_ (Int.toNat (0 : Int)) ([] : List UInt8)), ((List.drop (Int.toNat (IntKind.wrap .i64 (((List.length (List.getD r3_ (Int.toNat (0 : Int)) ([] : List UInt8)) : Nat) : Int) + (1 : Int)))) (List.take (List.length (List.drop (Int.toNat ((List.length (r1_ ++ ([32] : List UInt8)) : Nat) : Int)) (List.take (List.length (List.getD r2_ (Int.toNat (0 : Int)) ([] : List UInt8))) (List.getD r2_ (Int.toNat (0 : Int)) ([] : List UInt8))))) (List.drop (Int.toNat ((List.length (r1_ ++ ([32] : List UInt8)) : Nat) : Int)) (List.take (List.length (List.getD r2_ (Int.toNat (0 : Int)) ([] : List UInt8))) (List.getD r2_ (Int.toNat (0 : Int)) ([] : List UInt8)))))), (r5_ == (a1_ ++ ([10] : List UInt8))))))
                (.l ((List.getD r3_ (Int.toNat (0 : Int)) ([] : List UInt8)), ((List.drop (Int.toNat (IntKind.wrap .i64 (((List.length (List.getD r3_ (Int.toNat (0 : Int)) ([] : List UInt8)) : Nat) : Int) + (1 : Int)))) (List.take (List.length (List.drop (Int.toNat ((List.length (r1_ ++ ([32] : List UInt8)) : Nat) : Int)) (List.take (List.length (List.getD r2_ (Int.toNat (0 : Int)) ([] : List UInt8))) (List.getD r2_ (Int.toNat (0 : Int)) ([] : List UInt8))))) (List.drop (Int.toNat ((List.length (r1_ ++ ([32] : List UInt8)) : Nat) : Int)) (List.take (List.length (List.getD r2_ (Int.toNat (0 : Int)) ([] : List UInt8))) (List.getD r2_ (Int.toNat (0 : Int)) ([] : List UInt8)))))), false))))))

noncomputable def F_sp_l12Decode (a1_ : List UInt8) (a2_ : Int) : Option ((List UInt8) × ((List UInt8) × (Bool))) := (T_sp_l12Decode a1_ a2_).ev

noncomputable def A_sp_l12Decode : Sh := (.cons (.dat .str) (.cons (.dat (.int .i64)) .nil))

noncomputable def I_sp_l12Decode : List (Nat × OSh) := []

noncomputable def K_sp_l12Decode : RetK := { acts := [], res := [.cell 4 27, .tmp 5], sh := (.cons (.agg (.cons (.dat .str) (.cons (.dat .str) .nil))) (.cons (.dat .bool) .nil)), obs := [], pins := [] }

noncomputable def D_sp_l12Decode : FD where
  A := A_sp_l12Decode
  ins := I_sp_l12Decode
  lend := []
  R := (List UInt8) × ((List UInt8) × (Bool))
  F := fun x => F_sp_l12Decode x.1.1 x.1.2.1
  emb := fun r => ([.agg [.dat .str r.1, .dat .str r.2.1], .dat .bool r.2.2], [])

noncomputable def E_sp_l12Decode : Env := envOf [(79, D_sp_l1Num 1000000), (82, D_sp_l1Split), (52, D_sp_l12Record), (53, D_sp_l12Line)]

noncomputable def Z_sp_l12Decode : Nat → Nat → List Nat := fun _ _ => []

noncomputable def O_sp_l12Decode : List (Nat × LD) := []

noncomputable def C_sp_l12Decode : Code := (f83.body).getD .skip

/-! ### 57 loop.example/g01110/spec.l12Open -/

noncomputable def S_sp_l12Open_0 (k : List UInt8) (v : (Int) × (List ((List UInt8) × (List UInt8)))) : Tr (((Int) × (List ((List UInt8) × (List UInt8)))) ⊕ ((Int) × (List ((List UInt8) × (List UInt8))))) :=
  .t (decide (v.1 < ((List.length k : Nat) : Int)))
    (.t (decide (((List.length v.2 : Nat) : Int) < (60 : Int)))
        (.g (decide ((0 : Int) ≤ v.1) && decide (v.1 ≤ ((List.length k : Nat) : Int))) <|
          .c (List (List UInt8)) (F_sp_l1Split (List.drop (Int.toNat v.1) (List.take (List.length k) k)) (10 : Int)) fun r4_ =>
          .g (inR (0 : Int) (List.length r4_)) <|
          .g (decide ((Int.toNat (0 : Int)) < List.length r4_)) <|
          .c ((List UInt8) × ((List UInt8) × (Bool))) (F_sp_l12Decode (List.getD r4_ (Int.toNat (0 : Int)) ([] : List UInt8)) ((List.length v.2 : Nat) : Int)) fun r5_ =>
          .t (decide (((List.length r4_ : Nat) : Int) < (2 : Int)))
            (.l (.inr (v.1, v.2)))
            (.t (!r5_.2.2)
                (.l (.inr (v.1, v.2)))
                (.g (decide ((List.length v.2 + List.length ([(r5_.1, r5_.2.1)] : List ((List UInt8) × (List UInt8)))) * 32 ≤ 140737488355328)) <|
                  .g (inR (0 : Int) (List.length r4_)) <|
                  .g (decide ((Int.toNat (0 : Int)) < List.length r4_)) <|
                  .l (.inl ((IntKind.wrap .i64 ((IntKind.wrap .i64 (v.1 + ((List.length (List.getD r4_ (Int.toNat (0 : Int)) ([] : List UInt8)) : Nat) : Int))) + (1 : Int))), (v.2 ++ ([(r5_.1, r5_.2.1)] : List ((List UInt8) × (List UInt8)))))))))
        (.l (.inr (v.1, v.2))))
    (.l (.inr (v.1, v.2)))

noncomputable def L_sp_l12Open_0 (k : List UInt8) (v : (Int) × (List ((List UInt8) × (List UInt8)))) : Option ((Int) × (List ((List UInt8) × (List UInt8)))) := iter (fun v => (S_sp_l12Open_0 k v).ev) v

noncomputable def DL_sp_l12Open_0 : LD where
  head := { acts := [], S := { slots := [0, 4, 5], sh := (.cons (.dat .str) (.cons (.arr 9) (.cons (.dat (.int .i64)) .nil))), obs := [(9, .arr 27 (.pair .str .str))] } }
  exits := [(0, { acts := [], S := { slots := [4, 5], sh := (.cons (.arr 9) (.cons (.dat (.int .i64)) .nil)), obs := [(9, .arr 27 (.pair .str .str))] } })]
  rets := { acts := [], S := { slots := [], sh := .nil, obs := [] } }
  K := List UInt8
  V := (Int) × (List ((List UInt8) × (List UInt8)))
  R := (Int) × (List ((List UInt8) × (List UInt8)))
  join := fun k v => ((k, ((), (v.1, ()))), (v.2, ()))
  sk := fun t => t.1.1
  sv := fun t => (t.1.2.2.1, t.2.1)
  step := S_sp_l12Open_0
  leaf := fun _ r => .l (.exit 0 (mkSt ({ slots := [4, 5], sh := (.cons (.arr 9) (.cons (.dat (.int .i64)) .nil)), obs := [(9, .arr 27 (.pair .str .str))] }) (((), (r.1, ())), (r.2, ()))))

noncomputable def T_sp_l12Open (a1_ : List UInt8) : Tr ((Int) × (List ((List UInt8) × (List UInt8)))) :=
  .c ((Int) × (List ((List UInt8) × (List UInt8)))) (L_sp_l12Open_0 a1_ ((0 : Int), ([] : List ((List UInt8) × (List UInt8))))) fun r8_ =>
  .l (r8_.1, r8_.2)

noncomputable def F_sp_l12Open (a1_ : List UInt8) : Option ((Int) × (List ((List UInt8) × (List UInt8)))) := (T_sp_l12Open a1_).ev

noncomputable def A_sp_l12Open : Sh := (.cons (.dat .str) .nil)

noncomputable def I_sp_l12Open : List (Nat × OSh) := []

noncomputable def K_sp_l12Open : RetK := { acts := [.ren 9 0], res := [.tmp 2, .tmp 3], sh := (.cons (.arr 0) (.cons (.dat (.int .i64)) .nil)), obs := [(0, .arr 27 (.pair .str .str))], pins := [] }

noncomputable def D_sp_l12Open : FD where
  A := A_sp_l12Open
  ins := I_sp_l12Open
  lend := []
  R := (Int) × (List ((List UInt8) × (List UInt8)))
  F := fun x => F_sp_l12Open x.1.1
  emb := fun r => ([.arr 0, .dat (.int .i64) r.1], [(0, .arr 27 (.pair .str .str) r.2)])

noncomputable def E_sp_l12Open : Env := envOf [(82, D_sp_l1Split), (83, D_sp_l12Decode)]

noncomputable def Z_sp_l12Open : Nat → Nat → List Nat := fun _ _ => []

noncomputable def O_sp_l12Open : List (Nat × LD) := [(0, DL_sp_l12Open_0)]

noncomputable def C_sp_l12Open : Code := (f57.body).getD .skip

/-! ### 17 loop.example/g01110/spec.RecoverLog -/

noncomputable def T_sp_RecoverLog (a1_ : List UInt8) : Tr ((List UInt8) × ((List UInt8) × ((Int) × ((Int) × (Bool))))) :=
  .t (decide ((30000 : Int) < ((List.length a1_ : Nat) : Int)))
    (.l (([] : List UInt8), (([] : List UInt8), ((0 : Int), ((0 : Int), false)))))
    (.c ((Int) × (List ((List UInt8) × (List UInt8)))) (F_sp_l12Open a1_) fun r1_ =>
      .g (decide ((0 : Int) ≤ r1_.1) && decide (r1_.1 ≤ ((List.length a1_ : Nat) : Int))) <|
      .l ((List.drop 0 (List.take (Int.toNat r1_.1) a1_)), (([] : List UInt8), (((List.length r1_.2 : Nat) : Int), (r1_.1, true)))))

noncomputable def F_sp_RecoverLog (a1_ : List UInt8) : Option ((List UInt8) × ((List UInt8) × ((Int) × ((Int) × (Bool))))) := (T_sp_RecoverLog a1_).ev

noncomputable def A_sp_RecoverLog : Sh := (.cons (.dat .str) .nil)

noncomputable def I_sp_RecoverLog : List (Nat × OSh) := []

noncomputable def K_sp_RecoverLog : RetK := { acts := [], res := [.cell 2 31, .tmp 3, .tmp 4], sh := (.cons (.agg (.cons (.dat .str) (.cons (.dat .str) (.cons (.dat (.int .i64)) .nil)))) (.cons (.dat (.int .i64)) (.cons (.dat .bool) .nil))), obs := [], pins := [] }

noncomputable def D_sp_RecoverLog : FD where
  A := A_sp_RecoverLog
  ins := I_sp_RecoverLog
  lend := []
  R := (List UInt8) × ((List UInt8) × ((Int) × ((Int) × (Bool))))
  F := fun x => F_sp_RecoverLog x.1.1
  emb := fun r => ([.agg [.dat .str r.1, .dat .str r.2.1, .dat (.int .i64) r.2.2.1], .dat (.int .i64) r.2.2.2.1, .dat .bool r.2.2.2.2], [])

noncomputable def E_sp_RecoverLog : Env := envOf [(57, D_sp_l12Open)]

noncomputable def Z_sp_RecoverLog : Nat → Nat → List Nat := fun _ _ => []

noncomputable def O_sp_RecoverLog : List (Nat × LD) := []

noncomputable def C_sp_RecoverLog : Code := (f17.body).getD .skip

/-! ### 84 strings.IndexByte -/

noncomputable def T_strings_IndexByte (a1_ : List UInt8) (a2_ : Int) : Tr (Int) :=
  .c (Int) (F_internal_stringslite_IndexByte a1_ a2_) fun r1_ =>
  .l r1_

noncomputable def F_strings_IndexByte (a1_ : List UInt8) (a2_ : Int) : Option (Int) := (T_strings_IndexByte a1_ a2_).ev

noncomputable def A_strings_IndexByte : Sh := (.cons (.dat .str) (.cons (.dat (.int .u8)) .nil))

noncomputable def I_strings_IndexByte : List (Nat × OSh) := []

noncomputable def K_strings_IndexByte : RetK := { acts := [], res := [.tmp 4], sh := (.cons (.dat (.int .i64)) .nil), obs := [], pins := [] }

noncomputable def D_strings_IndexByte : FD where
  A := A_strings_IndexByte
  ins := I_strings_IndexByte
  lend := []
  R := Int
  F := fun x => F_strings_IndexByte x.1.1 x.1.2.1
  emb := fun r => ([.dat (.int .i64) r], [])

noncomputable def E_strings_IndexByte : Env := envOf [(102, D_internal_stringslite_IndexByte)]

noncomputable def Z_strings_IndexByte : Nat → Nat → List Nat := fun _ _ => []

noncomputable def O_strings_IndexByte : List (Nat × LD) := []

noncomputable def C_strings_IndexByte : Code := (f84.body).getD .skip

/-! ### 103 internal/stringslite.Cut -/

noncomputable def T_internal_stringslite_Cut (a1_ : List UInt8) (a2_ : List UInt8) : Tr ((List UInt8) × ((List UInt8) × (Bool))) :=
  .c (Int) (F_internal_stringslite_Index a1_ a2_) fun r1_ =>
  .t (decide ((0 : Int) ≤ r1_))
    (.g (decide ((0 : Int) ≤ r1_) && decide (r1_ ≤ ((List.length a1_ : Nat) : Int))) <|
      .g (decide ((0 : Int) ≤ (IntKind.wrap .i64 (r1_ + ((List.length a2_ : Nat) : Int)))) && decide ((IntKind.wrap .i64 (r1_ + ((List.length a2_ : Nat) : Int))) ≤ ((List.length a1_ : Nat) : Int))) <|
      .l ((List.drop 0 (List.take (Int.toNat r1_) a1_)), ((List.drop (Int.toNat (IntKind.wrap .i64 (r1_ + ((List.length a2_ : Nat) : Int)))) (List.take (List.length a1_) a1_)), true)))
    (.l (a1_, (([] : List UInt8), false)))

noncomputable def F_internal_stringslite_Cut (a1_ : List UInt8) (a2_ : List UInt8) : Option ((List UInt8) × ((List UInt8) × (Bool))) := (T_internal_stringslite_Cut a1_ a2_).ev

noncomputable def A_internal_stringslite_Cut : Sh := (.cons (.dat .str) (.cons (.dat .str) .nil))

noncomputable def I_internal_stringslite_Cut : List (Nat × OSh) := []

noncomputable def K_internal_stringslite_Cut : RetK := { acts := [], res := [.tmp 4, .tmp 5, .tmp 6], sh := (.cons (.dat .str) (.cons (.dat .str) (.cons (.dat .bool) .nil))), obs := [], pins := [] }

noncomputable def D_internal_stringslite_Cut : FD where
  A := A_internal_stringslite_Cut
  ins := I_internal_stringslite_Cut
  lend := []
  R := (List UInt8) × ((List UInt8) × (Bool))
  F := fun x => F_internal_stringslite_Cut x.1.1 x.1.2.1
  emb := fun r => ([.dat .str r.1, .dat .str r.2.1, .dat .bool r.2.2], [])

noncomputable def E_internal_stringslite_Cut : Env := envOf [(104, D_internal_stringslite_Index)]

noncomputable def Z_internal_stringslite_Cut : Nat → Nat → List Nat := fun _ _ => []

noncomputable def O_internal_stringslite_Cut : List (Nat × LD) := []

noncomputable def C_internal_stringslite_Cut : Code := (f103.body).getD .skip

/-! ### 86 strings.Cut -/

noncomputable def T_strings_Cut (a1_ : List UInt8) (a2_ : List UInt8) : Tr ((List UInt8) × ((List UInt8) × (Bool))) :=
  .c ((List UInt8) × ((List UInt8) × (Bool))) (F_internal_stringslite_Cut a1_ a2_) fun r1_ =>
  .l (r1_.1, (r1_.2.1, r1_.2.2))

noncomputable def F_strings_Cut (a1_ : List UInt8) (a2_ : List UInt8) : Option ((List UInt8) × ((List UInt8) × (Bool))) := (T_strings_Cut a1_ a2_).ev

noncomputable def A_strings_Cut : Sh := (.cons (.dat .str) (.cons (.dat .str) .nil))

noncomputable def I_strings_Cut : List (Nat × OSh) := []

noncomputable def K_strings_Cut : RetK := { acts := [], res := [.tmp 4, .tmp 5, .tmp 6], sh := (.cons (.dat .str) (.cons (.dat .str) (.cons (.dat .bool) .nil))), obs := [], pins := [] }

noncomputable def D_strings_Cut : FD where
  A := A_strings_Cut
  ins := I_strings_Cut
  lend := []
  R := (List UInt8) × ((List UInt8) × (Bool))
  F := fun x => F_strings_Cut x.1.1 x.1.2.1
  emb := fun r => ([.dat .str r.1, .dat .str r.2.1, .dat .bool r.2.2], [])

noncomputable def E_strings_Cut : Env := envOf [(103, D_internal_stringslite_Cut)]

noncomputable def Z_strings_Cut : Nat → Nat → List Nat := fun _ _ => []

noncomputable def O_strings_Cut : List (Nat × LD) := []

noncomputable def C_strings_Cut : Code := (f86.body).getD .skip

/-! ### 85 loop.example/g01110/impl.VerifyChecksum -/

noncomputable def T_im_VerifyChecksum (a1_ : List UInt8) : Tr ((List UInt8) × (Bool)) :=
  .c ((List UInt8) × ((List UInt8) × (Bool))) (F_strings_Cut a1_ ([35] : List UInt8)) fun r1_ =>
  .c ((List UInt8) × (Bool)) (F_im_AppendChecksum r1_.1) fun r2_ =>
  .t (!r2_.2)
    (.l (([] : List UInt8), false))
    (.t (!(r2_.1 == a1_))
        (.l (([] : List UInt8), false))
        (.l (r1_.1, true)))

noncomputable def F_im_VerifyChecksum (a1_ : List UInt8) : Option ((List UInt8) × (Bool)) := (T_im_VerifyChecksum a1_).ev

noncomputable def A_im_VerifyChecksum : Sh := (.cons (.dat .str) .nil)

noncomputable def I_im_VerifyChecksum : List (Nat × OSh) := []

noncomputable def K_im_VerifyChecksum : RetK := { acts := [], res := [.tmp 2, .tmp 3], sh := (.cons (.dat .str) (.cons (.dat .bool) .nil)), obs := [], pins := [] }

noncomputable def D_im_VerifyChecksum : FD where
  A := A_im_VerifyChecksum
  ins := I_im_VerifyChecksum
  lend := []
  R := (List UInt8) × (Bool)
  F := fun x => F_im_VerifyChecksum x.1.1
  emb := fun r => ([.dat .str r.1, .dat .bool r.2], [])

noncomputable def E_im_VerifyChecksum : Env := envOf [(86, D_strings_Cut), (55, D_im_AppendChecksum)]

noncomputable def Z_im_VerifyChecksum : Nat → Nat → List Nat := fun _ _ => []

noncomputable def O_im_VerifyChecksum : List (Nat × LD) := []

noncomputable def C_im_VerifyChecksum : Code := (f85.body).getD .skip

/-! ### 58 loop.example/g01110/impl.readRecords -/

noncomputable def S_im_readRecords_0 (k : List UInt8) (v : (Int) × (List ((List UInt8) × (List UInt8)))) : Tr (((Int) × (List ((List UInt8) × (List UInt8)))) ⊕ ((Int) × (List ((List UInt8) × (List UInt8))))) :=
  .g (decide ((0 : Int) ≤ v.1) && decide (v.1 ≤ ((List.length k : Nat) : Int))) <|
  .c (Int) (F_strings_IndexByte (List.drop (Int.toNat v.1) (List.take (List.length k) k)) (10 : Int)) fun r4_ =>
  .t (decide (r4_ < (0 : Int)))
    (.l (.inr (v.1, v.2)))
    (.g (decide ((0 : Int) ≤ v.1) && decide (v.1 ≤ (IntKind.wrap .i64 ((IntKind.wrap .i64 (v.1 + r4_)) + (1 : Int)))) && decide ((IntKind.wrap .i64 ((IntKind.wrap .i64 (v.1 + r4_)) + (1 : Int))) ≤ ((List.length k : Nat) : Int))) <|
      .g (decide ((0 : Int) ≤ r4_) && decide (r4_ ≤ ((List.length (List.drop (Int.toNat v.1) (List.take (Int.toNat (IntKind.wrap .i64 ((IntKind.wrap .i64 (v.1 + r4_)) + (1 : Int)))) k)) : Nat) : Int))) <|
      .c ((List UInt8) × (Bool)) (F_im_VerifyChecksum (List.drop 0 (List.take (Int.toNat r4_) (List.drop (Int.toNat v.1) (List.take (Int.toNat (IntKind.wrap .i64 ((IntKind.wrap .i64 (v.1 + r4_)) + (1 : Int)))) k))))) fun r5_ =>
      .c ((List UInt8) × ((List UInt8) × (Bool))) (F_strings_Cut r5_.1 ([32] : List UInt8)) fun r6_ =>
      .c ((List UInt8) × ((List UInt8) × (Bool))) (F_strings_Cut r6_.2.1 ([64] : List UInt8)) fun r7_ =>
      .c ((List UInt8) × (Bool)) (F_im_EncodeRecord ((List.length v.2 : Nat) : Int) r7_.1 r7_.2.1) fun r8_ =>
      .t (!r8_.2)
        (.l (.inr (v.1, v.2)))
        (.t (!(r8_.1 == (List.drop (Int.toNat v.1) (List.take (Int.toNat (IntKind.wrap .i64 ((IntKind.wrap .i64 (v.1 + r4_)) + (1 : Int)))) k))))
            (.l (.inr (v.1, v.2)))
            (.g (decide ((List.length v.2 + List.length ([(r7_.1, r7_.2.1)] : List ((List UInt8) × (List UInt8)))) * 32 ≤ 140737488355328)) <|
              .l (.inl ((IntKind.wrap .i64 ((IntKind.wrap .i64 (v.1 + r4_)) + (1 : Int))), (v.2 ++ ([(r7_.1, r7_.2.1)] : List ((List UInt8) × (List UInt8)))))))))

noncomputable def L_im_readRecords_0 (k : List UInt8) (v : (Int) × (List ((List UInt8) × (List UInt8)))) : Option ((Int) × (List ((List UInt8) × (List UInt8)))) := iter (fun v => (S_im_readRecords_0 k v).ev) v

noncomputable def DL_im_readRecords_0 : LD where
  head := { acts := [], S := { slots := [0, 4, 5], sh := (.cons (.dat .str) (.cons (.arr 19) (.cons (.dat (.int .i64)) .nil))), obs := [(19, .arr 27 (.pair .str .str))] } }
  exits := []
  rets := { acts := [], S := { slots := [2, 3], sh := (.cons (.arr 19) (.cons (.dat (.int .i64)) .nil)), obs := [(19, .arr 27 (.pair .str .str))] } }
  K := List UInt8
  V := (Int) × (List ((List UInt8) × (List UInt8)))
  R := (Int) × (List ((List UInt8) × (List UInt8)))
  join := fun k v => ((k, ((), (v.1, ()))), (v.2, ()))
  sk := fun t => t.1.1
  sv := fun t => (t.1.2.2.1, t.2.1)
  step := S_im_readRecords_0
  leaf := fun _ r => .l (.ret (mkSt ({ slots := [2, 3], sh := (.cons (.arr 19) (.cons (.dat (.int .i64)) .nil)), obs := [(19, .arr 27 (.pair .str .str))] }) (((), (r.1, ())), (r.2, ()))))

noncomputable def T_im_readRecords (a1_ : List UInt8) : Tr ((Int) × (List ((List UInt8) × (List UInt8)))) :=
  .c ((Int) × (List ((List UInt8) × (List UInt8)))) (L_im_readRecords_0 a1_ ((0 : Int), ([] : List ((List UInt8) × (List UInt8))))) fun r11_ =>
  .l (r11_.1, r11_.2)

noncomputable def F_im_readRecords (a1_ : List UInt8) : Option ((Int) × (List ((List UInt8) × (List UInt8)))) := (T_im_readRecords a1_).ev

noncomputable def A_im_readRecords : Sh := (.cons (.dat .str) .nil)

noncomputable def I_im_readRecords : List (Nat × OSh) := []

noncomputable def K_im_readRecords : RetK := { acts := [.ren 19 0], res := [.tmp 2, .tmp 3], sh := (.cons (.arr 0) (.cons (.dat (.int .i64)) .nil)), obs := [(0, .arr 27 (.pair .str .str))], pins := [] }

noncomputable def D_im_readRecords : FD where
  A := A_im_readRecords
  ins := I_im_readRecords
  lend := []
  R := (Int) × (List ((List UInt8) × (List UInt8)))
  F := fun x => F_im_readRecords x.1.1
  emb := fun r => ([.arr 0, .dat (.int .i64) r.1], [(0, .arr 27 (.pair .str .str) r.2)])

noncomputable def E_im_readRecords : Env := envOf [(84, D_strings_IndexByte), (85, D_im_VerifyChecksum), (86, D_strings_Cut), (16, D_im_EncodeRecord)]

noncomputable def Z_im_readRecords : Nat → Nat → List Nat := fun _ _ => []

noncomputable def O_im_readRecords : List (Nat × LD) := [(0, DL_im_readRecords_0)]

noncomputable def C_im_readRecords : Code := (f58.body).getD .skip

/-! ### 18 loop.example/g01110/impl.RecoverLog -/

noncomputable def T_im_RecoverLog (a1_ : List UInt8) : Tr ((List UInt8) × ((List UInt8) × ((Int) × ((Int) × (Bool))))) :=
  .t (decide ((30000 : Int) < ((List.length a1_ : Nat) : Int)))
    (.l (([] : List UInt8), (([] : List UInt8), ((0 : Int), ((0 : Int), false)))))
    (.c ((Int) × (List ((List UInt8) × (List UInt8)))) (F_im_readRecords a1_) fun r1_ =>
      .g (decide ((0 : Int) ≤ r1_.1) && decide (r1_.1 ≤ ((List.length a1_ : Nat) : Int))) <|
      .l ((List.drop 0 (List.take (Int.toNat r1_.1) a1_)), (([] : List UInt8), (((List.length r1_.2 : Nat) : Int), (r1_.1, true)))))

noncomputable def F_im_RecoverLog (a1_ : List UInt8) : Option ((List UInt8) × ((List UInt8) × ((Int) × ((Int) × (Bool))))) := (T_im_RecoverLog a1_).ev

noncomputable def A_im_RecoverLog : Sh := (.cons (.dat .str) .nil)

noncomputable def I_im_RecoverLog : List (Nat × OSh) := []

noncomputable def K_im_RecoverLog : RetK := { acts := [], res := [.cell 2 31, .tmp 3, .tmp 4], sh := (.cons (.agg (.cons (.dat .str) (.cons (.dat .str) (.cons (.dat (.int .i64)) .nil)))) (.cons (.dat (.int .i64)) (.cons (.dat .bool) .nil))), obs := [], pins := [] }

noncomputable def D_im_RecoverLog : FD where
  A := A_im_RecoverLog
  ins := I_im_RecoverLog
  lend := []
  R := (List UInt8) × ((List UInt8) × ((Int) × ((Int) × (Bool))))
  F := fun x => F_im_RecoverLog x.1.1
  emb := fun r => ([.agg [.dat .str r.1, .dat .str r.2.1, .dat (.int .i64) r.2.2.1], .dat (.int .i64) r.2.2.2.1, .dat .bool r.2.2.2.2], [])

noncomputable def E_im_RecoverLog : Env := envOf [(58, D_im_readRecords)]

noncomputable def Z_im_RecoverLog : Nat → Nat → List Nat := fun _ _ => []

noncomputable def O_im_RecoverLog : List (Nat × LD) := []

noncomputable def C_im_RecoverLog : Code := (f18.body).getD .skip

/-! ### 19 loop.example/g01110/laws.eqLog -/

noncomputable def T_lw_eqLog (a1_ : List UInt8) (a2_ : List UInt8) (a3_ : Int) (a4_ : List UInt8) (a5_ : List UInt8) (a6_ : Int) : Tr (Bool) :=
  .t (!(a1_ == a4_))
    (.l false)
    (.t (!(a2_ == a5_))
        (.l false)
        (.t (a3_ != a6_)
            (.l false)
            (.l true)))

noncomputable def F_lw_eqLog (a1_ : List UInt8) (a2_ : List UInt8) (a3_ : Int) (a4_ : List UInt8) (a5_ : List UInt8) (a6_ : Int) : Option (Bool) := (T_lw_eqLog a1_ a2_ a3_ a4_ a5_ a6_).ev

noncomputable def A_lw_eqLog : Sh := (.cons (.agg (.cons (.dat .str) (.cons (.dat .str) (.cons (.dat (.int .i64)) .nil)))) (.cons (.agg (.cons (.dat .str) (.cons (.dat .str) (.cons (.dat (.int .i64)) .nil)))) .nil))

noncomputable def I_lw_eqLog : List (Nat × OSh) := []

noncomputable def K_lw_eqLog : RetK := { acts := [], res := [.tmp 4], sh := (.cons (.dat .bool) .nil), obs := [], pins := [] }

noncomputable def D_lw_eqLog : FD where
  A := A_lw_eqLog
  ins := I_lw_eqLog
  lend := []
  R := Bool
  F := fun x => F_lw_eqLog x.1.1.1 x.1.1.2.1 x.1.1.2.2.1 x.1.2.1.1 x.1.2.1.2.1 x.1.2.1.2.2.1
  emb := fun r => ([.dat .bool r], [])

noncomputable def E_lw_eqLog : Env := envOf []

noncomputable def Z_lw_eqLog : Nat → Nat → List Nat := fun _ _ => []

noncomputable def O_lw_eqLog : List (Nat × LD) := []

noncomputable def C_lw_eqLog : Code := (f19.body).getD .skip

/-! ### 4 loop.example/g01110/laws.FnExactRecoverLog -/

noncomputable def T_lw_FnExactRecoverLog (a1_ : List UInt8) : Tr (Bool) :=
  .t (decide ((1048576 : Int) < ((List.length a1_ : Nat) : Int)))
    (.l true)
    (.c ((List UInt8) × ((List UInt8) × ((Int) × ((Int) × (Bool))))) (F_sp_RecoverLog a1_) fun r1_ =>
      .c ((List UInt8) × ((List UInt8) × ((Int) × ((Int) × (Bool))))) (F_im_RecoverLog a1_) fun r2_ =>
      .c (Bool) (F_lw_eqLog r2_.1 r2_.2.1 r2_.2.2.1 r1_.1 r1_.2.1 r1_.2.2.1) fun r3_ =>
      .t (!r3_)
        (.l false)
        (.t (r2_.2.2.2.1 != r1_.2.2.2.1)
            (.l false)
            (.t (!(r2_.2.2.2.2 == r1_.2.2.2.2))
                (.l false)
                (.l true))))

noncomputable def F_lw_FnExactRecoverLog (a1_ : List UInt8) : Option (Bool) := (T_lw_FnExactRecoverLog a1_).ev

noncomputable def A_lw_FnExactRecoverLog : Sh := (.cons (.dat .str) .nil)

noncomputable def I_lw_FnExactRecoverLog : List (Nat × OSh) := []

noncomputable def K_lw_FnExactRecoverLog : RetK := { acts := [], res := [.tmp 2], sh := (.cons (.dat .bool) .nil), obs := [], pins := [] }

noncomputable def D_lw_FnExactRecoverLog : FD where
  A := A_lw_FnExactRecoverLog
  ins := I_lw_FnExactRecoverLog
  lend := []
  R := Bool
  F := fun x => F_lw_FnExactRecoverLog x.1.1
  emb := fun r => ([.dat .bool r], [])

noncomputable def E_lw_FnExactRecoverLog : Env := envOf [(17, D_sp_RecoverLog), (18, D_im_RecoverLog), (19, D_lw_eqLog)]

noncomputable def Z_lw_FnExactRecoverLog : Nat → Nat → List Nat := fun _ _ => []

noncomputable def O_lw_FnExactRecoverLog : List (Nat × LD) := []

noncomputable def C_lw_FnExactRecoverLog : Code := (f4.body).getD .skip

/-! ### 20 loop.example/g01110/laws.szLog -/

noncomputable def T_lw_szLog (a1_ : List UInt8) (a2_ : List UInt8) (_a3_ : Int) (a4_ : Int) : Tr (Int) :=
  .t (decide ((IntKind.wrap .i64 (a4_ - ((List.length a1_ : Nat) : Int))) < (0 : Int)))
    (.l (-1 : Int))
    (.t (decide ((IntKind.wrap .i64 ((IntKind.wrap .i64 (a4_ - ((List.length a1_ : Nat) : Int))) - ((List.length a2_ : Nat) : Int))) < (0 : Int)))
        (.l (-1 : Int))
        (.l (IntKind.wrap .i64 ((IntKind.wrap .i64 (a4_ - ((List.length a1_ : Nat) : Int))) - ((List.length a2_ : Nat) : Int)))))

noncomputable def F_lw_szLog (a1_ : List UInt8) (a2_ : List UInt8) (a3_ : Int) (a4_ : Int) : Option (Int) := (T_lw_szLog a1_ a2_ a3_ a4_).ev

noncomputable def A_lw_szLog : Sh := (.cons (.agg (.cons (.dat .str) (.cons (.dat .str) (.cons (.dat (.int .i64)) .nil)))) (.cons (.dat (.int .i64)) .nil))

noncomputable def I_lw_szLog : List (Nat × OSh) := []

noncomputable def K_lw_szLog : RetK := { acts := [], res := [.tmp 4], sh := (.cons (.dat (.int .i64)) .nil), obs := [], pins := [] }

noncomputable def D_lw_szLog : FD where
  A := A_lw_szLog
  ins := I_lw_szLog
  lend := []
  R := Int
  F := fun x => F_lw_szLog x.1.1.1 x.1.1.2.1 x.1.1.2.2.1 x.1.2.1
  emb := fun r => ([.dat (.int .i64) r], [])

noncomputable def E_lw_szLog : Env := envOf []

noncomputable def Z_lw_szLog : Nat → Nat → List Nat := fun _ _ => []

noncomputable def O_lw_szLog : List (Nat × LD) := []

noncomputable def C_lw_szLog : Code := (f20.body).getD .skip

/-! ### 22 loop.example/g01110/laws.toLog -/

noncomputable def T_lw_toLog (a1_ : List UInt8) (a2_ : List UInt8) (a3_ : Int) : Tr ((List UInt8) × ((List UInt8) × (Int))) :=
  .l (a1_, (a2_, a3_))

noncomputable def F_lw_toLog (a1_ : List UInt8) (a2_ : List UInt8) (a3_ : Int) : Option ((List UInt8) × ((List UInt8) × (Int))) := (T_lw_toLog a1_ a2_ a3_).ev

noncomputable def A_lw_toLog : Sh := (.cons (.agg (.cons (.dat .str) (.cons (.dat .str) (.cons (.dat (.int .i64)) .nil)))) .nil)

noncomputable def I_lw_toLog : List (Nat × OSh) := []

noncomputable def K_lw_toLog : RetK := { acts := [], res := [.cell 2 31], sh := (.cons (.agg (.cons (.dat .str) (.cons (.dat .str) (.cons (.dat (.int .i64)) .nil)))) .nil), obs := [], pins := [] }

noncomputable def D_lw_toLog : FD where
  A := A_lw_toLog
  ins := I_lw_toLog
  lend := []
  R := (List UInt8) × ((List UInt8) × (Int))
  F := fun x => F_lw_toLog x.1.1.1 x.1.1.2.1 x.1.1.2.2.1
  emb := fun r => ([.agg [.dat .str r.1, .dat .str r.2.1, .dat (.int .i64) r.2.2]], [])

noncomputable def E_lw_toLog : Env := envOf []

noncomputable def Z_lw_toLog : Nat → Nat → List Nat := fun _ _ => []

noncomputable def O_lw_toLog : List (Nat × LD) := []

noncomputable def C_lw_toLog : Code := (f22.body).getD .skip

/-! ### 59 loop.example/g01110/spec.l12Valid -/

noncomputable def T_sp_l12Valid (a1_ : List UInt8) (a2_ : List UInt8) (a3_ : Int) : Tr (Bool) :=
  .t (decide ((30000 : Int) < (IntKind.wrap .i64 (((List.length a1_ : Nat) : Int) + ((List.length a2_ : Nat) : Int)))))
    (.l false)
    (.g (decide (List.length a1_ + List.length a2_ ≤ 9223372036854775807)) <|
      .c ((Int) × (List ((List UInt8) × (List UInt8)))) (F_sp_l12Open (a1_ ++ a2_)) fun r1_ =>
      .c ((Int) × (List ((List UInt8) × (List UInt8)))) (F_sp_l12Open a1_) fun r2_ =>
      .t (r1_.1 == (IntKind.wrap .i64 (((List.length a1_ : Nat) : Int) + ((List.length a2_ : Nat) : Int))))
        (.t (r2_.1 == ((List.length a1_ : Nat) : Int))
            (.l (((List.length r1_.2 : Nat) : Int) == a3_))
            (.l false))
        (.l false))

noncomputable def F_sp_l12Valid (a1_ : List UInt8) (a2_ : List UInt8) (a3_ : Int) : Option (Bool) := (T_sp_l12Valid a1_ a2_ a3_).ev

noncomputable def A_sp_l12Valid : Sh := (.cons (.agg (.cons (.dat .str) (.cons (.dat .str) (.cons (.dat (.int .i64)) .nil)))) .nil)

noncomputable def I_sp_l12Valid : List (Nat × OSh) := []

noncomputable def K_sp_l12Valid : RetK := { acts := [], res := [.tmp 2], sh := (.cons (.dat .bool) .nil), obs := [], pins := [] }

noncomputable def D_sp_l12Valid : FD where
  A := A_sp_l12Valid
  ins := I_sp_l12Valid
  lend := []
  R := Bool
  F := fun x => F_sp_l12Valid x.1.1.1 x.1.1.2.1 x.1.1.2.2.1
  emb := fun r => ([.dat .bool r], [])

noncomputable def E_sp_l12Valid : Env := envOf [(57, D_sp_l12Open)]

noncomputable def Z_sp_l12Valid : Nat → Nat → List Nat := fun _ _ => []

noncomputable def O_sp_l12Valid : List (Nat × LD) := []

noncomputable def C_sp_l12Valid : Code := (f59.body).getD .skip

/-! ### 21 loop.example/g01110/spec.IsValidLog -/

noncomputable def T_sp_IsValidLog (a1_ : List UInt8) (a2_ : List UInt8) (a3_ : Int) : Tr (Bool) :=
  .c (Bool) (F_sp_l12Valid a1_ a2_ a3_) fun r1_ =>
  .l r1_

noncomputable def F_sp_IsValidLog (a1_ : List UInt8) (a2_ : List UInt8) (a3_ : Int) : Option (Bool) := (T_sp_IsValidLog a1_ a2_ a3_).ev

noncomputable def A_sp_IsValidLog : Sh := (.cons (.agg (.cons (.dat .str) (.cons (.dat .str) (.cons (.dat (.int .i64)) .nil)))) .nil)

noncomputable def I_sp_IsValidLog : List (Nat × OSh) := []

noncomputable def K_sp_IsValidLog : RetK := { acts := [], res := [.tmp 2], sh := (.cons (.dat .bool) .nil), obs := [], pins := [] }

noncomputable def D_sp_IsValidLog : FD where
  A := A_sp_IsValidLog
  ins := I_sp_IsValidLog
  lend := []
  R := Bool
  F := fun x => F_sp_IsValidLog x.1.1.1 x.1.1.2.1 x.1.1.2.2.1
  emb := fun r => ([.dat .bool r], [])

noncomputable def E_sp_IsValidLog : Env := envOf [(59, D_sp_l12Valid)]

noncomputable def Z_sp_IsValidLog : Nat → Nat → List Nat := fun _ _ => []

noncomputable def O_sp_IsValidLog : List (Nat × LD) := []

noncomputable def C_sp_IsValidLog : Code := (f21.body).getD .skip

/-! ### 23 loop.example/g01110/impl.IsValidLog -/

noncomputable def T_im_IsValidLog (a1_ : List UInt8) (a2_ : List UInt8) (a3_ : Int) : Tr (Bool) :=
  .g (decide (List.length a1_ + List.length a2_ ≤ 9223372036854775807)) <|
  .t (decide ((30000 : Int) < ((List.length (a1_ ++ a2_) : Nat) : Int)))
    (.l false)
    (.c ((Int) × (List ((List UInt8) × (List UInt8)))) (F_im_readRecords (a1_ ++ a2_)) fun r1_ =>
      .c ((Int) × (List ((List UInt8) × (List UInt8)))) (F_im_readRecords a1_) fun r2_ =>
      .t (r1_.1 == ((List.length (a1_ ++ a2_) : Nat) : Int))
        (.t (r2_.1 == ((List.length a1_ : Nat) : Int))
            (.l (a3_ == ((List.length r1_.2 : Nat) : Int)))
            (.l false))
        (.l false))

noncomputable def F_im_IsValidLog (a1_ : List UInt8) (a2_ : List UInt8) (a3_ : Int) : Option (Bool) := (T_im_IsValidLog a1_ a2_ a3_).ev

noncomputable def A_im_IsValidLog : Sh := (.cons (.agg (.cons (.dat .str) (.cons (.dat .str) (.cons (.dat (.int .i64)) .nil)))) .nil)

noncomputable def I_im_IsValidLog : List (Nat × OSh) := []

noncomputable def K_im_IsValidLog : RetK := { acts := [], res := [.tmp 2], sh := (.cons (.dat .bool) .nil), obs := [], pins := [] }

noncomputable def D_im_IsValidLog : FD where
  A := A_im_IsValidLog
  ins := I_im_IsValidLog
  lend := []
  R := Bool
  F := fun x => F_im_IsValidLog x.1.1.1 x.1.1.2.1 x.1.1.2.2.1
  emb := fun r => ([.dat .bool r], [])

noncomputable def E_im_IsValidLog : Env := envOf [(58, D_im_readRecords)]

noncomputable def Z_im_IsValidLog : Nat → Nat → List Nat := fun _ _ => []

noncomputable def O_im_IsValidLog : List (Nat × LD) := []

noncomputable def C_im_IsValidLog : Code := (f23.body).getD .skip

/-! ### 5 loop.example/g01110/laws.FnExactIsValidLog -/

noncomputable def T_lw_FnExactIsValidLog (a1_ : List UInt8) (a2_ : List UInt8) (a3_ : Int) : Tr (Bool) :=
  .c (Int) (F_lw_szLog a1_ a2_ a3_ (1048576 : Int)) fun r1_ =>
  .t (decide (r1_ < (0 : Int)))
    (.l true)
    (.c ((List UInt8) × ((List UInt8) × (Int))) (F_lw_toLog a1_ a2_ a3_) fun r2_ =>
      .c (Bool) (F_sp_IsValidLog r2_.1 r2_.2.1 r2_.2.2) fun r3_ =>
      .c ((List UInt8) × ((List UInt8) × (Int))) (F_lw_toLog a1_ a2_ a3_) fun r4_ =>
      .c (Bool) (F_im_IsValidLog r4_.1 r4_.2.1 r4_.2.2) fun r5_ =>
      .t (!(r5_ == r3_))
        (.l false)
        (.l true))

noncomputable def F_lw_FnExactIsValidLog (a1_ : List UInt8) (a2_ : List UInt8) (a3_ : Int) : Option (Bool) := (T_lw_FnExactIsValidLog a1_ a2_ a3_).ev

noncomputable def A_lw_FnExactIsValidLog : Sh := (.cons (.agg (.cons (.dat .str) (.cons (.dat .str) (.cons (.dat (.int .i64)) .nil)))) .nil)

noncomputable def I_lw_FnExactIsValidLog : List (Nat × OSh) := []

noncomputable def K_lw_FnExactIsValidLog : RetK := { acts := [], res := [.tmp 2], sh := (.cons (.dat .bool) .nil), obs := [], pins := [] }

noncomputable def D_lw_FnExactIsValidLog : FD where
  A := A_lw_FnExactIsValidLog
  ins := I_lw_FnExactIsValidLog
  lend := []
  R := Bool
  F := fun x => F_lw_FnExactIsValidLog x.1.1.1 x.1.1.2.1 x.1.1.2.2.1
  emb := fun r => ([.dat .bool r], [])

noncomputable def E_lw_FnExactIsValidLog : Env := envOf [(20, D_lw_szLog), (22, D_lw_toLog), (21, D_sp_IsValidLog), (23, D_im_IsValidLog)]

noncomputable def Z_lw_FnExactIsValidLog : Nat → Nat → List Nat := fun _ _ => []

noncomputable def O_lw_FnExactIsValidLog : List (Nat × LD) := []

noncomputable def C_lw_FnExactIsValidLog : Code := (f5.body).getD .skip

/-! ### 26 loop.example/g01110/spec.SyncLog -/

noncomputable def T_sp_SyncLog (a1_ : List UInt8) (a2_ : List UInt8) (a3_ : Int) : Tr ((List UInt8) × ((List UInt8) × ((Int) × (Bool)))) :=
  .c (Bool) (F_sp_l12Valid a1_ a2_ a3_) fun r1_ =>
  .t (!r1_)
    (.l (([] : List UInt8), (([] : List UInt8), ((0 : Int), false))))
    (.g (decide (List.length a1_ + List.length a2_ ≤ 9223372036854775807)) <|
      .l ((a1_ ++ a2_), (([] : List UInt8), (a3_, true))))

noncomputable def F_sp_SyncLog (a1_ : List UInt8) (a2_ : List UInt8) (a3_ : Int) : Option ((List UInt8) × ((List UInt8) × ((Int) × (Bool)))) := (T_sp_SyncLog a1_ a2_ a3_).ev

noncomputable def A_sp_SyncLog : Sh := (.cons (.agg (.cons (.dat .str) (.cons (.dat .str) (.cons (.dat (.int .i64)) .nil)))) .nil)

noncomputable def I_sp_SyncLog : List (Nat × OSh) := []

noncomputable def K_sp_SyncLog : RetK := { acts := [], res := [.cell 2 31, .tmp 3], sh := (.cons (.agg (.cons (.dat .str) (.cons (.dat .str) (.cons (.dat (.int .i64)) .nil)))) (.cons (.dat .bool) .nil)), obs := [], pins := [] }

noncomputable def D_sp_SyncLog : FD where
  A := A_sp_SyncLog
  ins := I_sp_SyncLog
  lend := []
  R := (List UInt8) × ((List UInt8) × ((Int) × (Bool)))
  F := fun x => F_sp_SyncLog x.1.1.1 x.1.1.2.1 x.1.1.2.2.1
  emb := fun r => ([.agg [.dat .str r.1, .dat .str r.2.1, .dat (.int .i64) r.2.2.1], .dat .bool r.2.2.2], [])

noncomputable def E_sp_SyncLog : Env := envOf [(59, D_sp_l12Valid)]

noncomputable def Z_sp_SyncLog : Nat → Nat → List Nat := fun _ _ => []

noncomputable def O_sp_SyncLog : List (Nat × LD) := []

noncomputable def C_sp_SyncLog : Code := (f26.body).getD .skip

/-! ### 27 loop.example/g01110/impl.SyncLog -/

noncomputable def T_im_SyncLog (a1_ : List UInt8) (a2_ : List UInt8) (a3_ : Int) : Tr ((List UInt8) × ((List UInt8) × ((Int) × (Bool)))) :=
  .c (Bool) (F_im_IsValidLog a1_ a2_ a3_) fun r1_ =>
  .t (!r1_)
    (.l (([] : List UInt8), (([] : List UInt8), ((0 : Int), false))))
    (.g (decide (List.length a1_ + List.length a2_ ≤ 9223372036854775807)) <|
      .l ((a1_ ++ a2_), (([] : List UInt8), (a3_, true))))

noncomputable def F_im_SyncLog (a1_ : List UInt8) (a2_ : List UInt8) (a3_ : Int) : Option ((List UInt8) × ((List UInt8) × ((Int) × (Bool)))) := (T_im_SyncLog a1_ a2_ a3_).ev

noncomputable def A_im_SyncLog : Sh := (.cons (.agg (.cons (.dat .str) (.cons (.dat .str) (.cons (.dat (.int .i64)) .nil)))) .nil)

noncomputable def I_im_SyncLog : List (Nat × OSh) := []

noncomputable def K_im_SyncLog : RetK := { acts := [], res := [.cell 2 31, .tmp 3], sh := (.cons (.agg (.cons (.dat .str) (.cons (.dat .str) (.cons (.dat (.int .i64)) .nil)))) (.cons (.dat .bool) .nil)), obs := [], pins := [] }

noncomputable def D_im_SyncLog : FD where
  A := A_im_SyncLog
  ins := I_im_SyncLog
  lend := []
  R := (List UInt8) × ((List UInt8) × ((Int) × (Bool)))
  F := fun x => F_im_SyncLog x.1.1.1 x.1.1.2.1 x.1.1.2.2.1
  emb := fun r => ([.agg [.dat .str r.1, .dat .str r.2.1, .dat (.int .i64) r.2.2.1], .dat .bool r.2.2.2], [])

noncomputable def E_im_SyncLog : Env := envOf [(23, D_im_IsValidLog)]

noncomputable def Z_im_SyncLog : Nat → Nat → List Nat := fun _ _ => []

noncomputable def O_im_SyncLog : List (Nat × LD) := []

noncomputable def C_im_SyncLog : Code := (f27.body).getD .skip

/-! ### 7 loop.example/g01110/laws.FnExactSyncLog -/

noncomputable def T_lw_FnExactSyncLog (a1_ : List UInt8) (a2_ : List UInt8) (a3_ : Int) : Tr (Bool) :=
  .c (Int) (F_lw_szLog a1_ a2_ a3_ (1048576 : Int)) fun r1_ =>
  .t (decide (r1_ < (0 : Int)))
    (.l true)
    (.c ((List UInt8) × ((List UInt8) × (Int))) (F_lw_toLog a1_ a2_ a3_) fun r2_ =>
      .c ((List UInt8) × ((List UInt8) × ((Int) × (Bool)))) (F_sp_SyncLog r2_.1 r2_.2.1 r2_.2.2) fun r3_ =>
      .c ((List UInt8) × ((List UInt8) × (Int))) (F_lw_toLog a1_ a2_ a3_) fun r4_ =>
      .c ((List UInt8) × ((List UInt8) × ((Int) × (Bool)))) (F_im_SyncLog r4_.1 r4_.2.1 r4_.2.2) fun r5_ =>
      .c (Bool) (F_lw_eqLog r5_.1 r5_.2.1 r5_.2.2.1 r3_.1 r3_.2.1 r3_.2.2.1) fun r6_ =>
      .t (!r6_)
        (.l false)
        (.t (!(r5_.2.2.2 == r3_.2.2.2))
            (.l false)
            (.l true)))

noncomputable def F_lw_FnExactSyncLog (a1_ : List UInt8) (a2_ : List UInt8) (a3_ : Int) : Option (Bool) := (T_lw_FnExactSyncLog a1_ a2_ a3_).ev

noncomputable def A_lw_FnExactSyncLog : Sh := (.cons (.agg (.cons (.dat .str) (.cons (.dat .str) (.cons (.dat (.int .i64)) .nil)))) .nil)

noncomputable def I_lw_FnExactSyncLog : List (Nat × OSh) := []

noncomputable def K_lw_FnExactSyncLog : RetK := { acts := [], res := [.tmp 2], sh := (.cons (.dat .bool) .nil), obs := [], pins := [] }

noncomputable def D_lw_FnExactSyncLog : FD where
  A := A_lw_FnExactSyncLog
  ins := I_lw_FnExactSyncLog
  lend := []
  R := Bool
  F := fun x => F_lw_FnExactSyncLog x.1.1.1 x.1.1.2.1 x.1.1.2.2.1
  emb := fun r => ([.dat .bool r], [])

noncomputable def E_lw_FnExactSyncLog : Env := envOf [(20, D_lw_szLog), (22, D_lw_toLog), (26, D_sp_SyncLog), (27, D_im_SyncLog), (19, D_lw_eqLog)]

noncomputable def Z_lw_FnExactSyncLog : Nat → Nat → List Nat := fun _ _ => []

noncomputable def O_lw_FnExactSyncLog : List (Nat × LD) := []

noncomputable def C_lw_FnExactSyncLog : Code := (f7.body).getD .skip

/-! ### 28 loop.example/g01110/spec.AppendRecord -/

noncomputable def T_sp_AppendRecord (a1_ : List UInt8) (a2_ : List UInt8) (a3_ : Int) (a4_ : List UInt8) (a5_ : List UInt8) : Tr ((List UInt8) × ((List UInt8) × ((Int) × (Int)))) :=
  .c (Bool) (F_sp_l12Valid a1_ a2_ a3_) fun r1_ =>
  .t (!r1_)
    (.l (a1_, (a2_, (a3_, (1 : Int)))))
    (.c (Bool) (F_sp_l12Record a4_ a5_) fun r2_ =>
      .t (!r2_)
        (.l (a1_, (a2_, (a3_, (1 : Int)))))
        (.t (a3_ == (60 : Int))
            (.l (a1_, (a2_, (a3_, (2 : Int)))))
            (.c (List UInt8) (F_sp_l12Line a3_ a4_ a5_) fun r3_ =>
              .g (decide (List.length a2_ + List.length r3_ ≤ 9223372036854775807)) <|
              .l (a1_, ((a2_ ++ r3_), ((IntKind.wrap .i64 (a3_ + (1 : Int))), (0 : Int)))))))

noncomputable def F_sp_AppendRecord (a1_ : List UInt8) (a2_ : List UInt8) (a3_ : Int) (a4_ : List UInt8) (a5_ : List UInt8) : Option ((List UInt8) × ((List UInt8) × ((Int) × (Int)))) := (T_sp_AppendRecord a1_ a2_ a3_ a4_ a5_).ev

noncomputable def A_sp_AppendRecord : Sh := (.cons (.agg (.cons (.dat .str) (.cons (.dat .str) (.cons (.dat (.int .i64)) .nil)))) (.cons (.agg (.cons (.dat .str) (.cons (.dat .str) .nil))) .nil))

noncomputable def I_sp_AppendRecord : List (Nat × OSh) := []

noncomputable def K_sp_AppendRecord : RetK := { acts := [], res := [.cell 4 31, .tmp 5], sh := (.cons (.agg (.cons (.dat .str) (.cons (.dat .str) (.cons (.dat (.int .i64)) .nil)))) (.cons (.dat (.int .i64)) .nil)), obs := [], pins := [] }

noncomputable def D_sp_AppendRecord : FD where
  A := A_sp_AppendRecord
  ins := I_sp_AppendRecord
  lend := []
  R := (List UInt8) × ((List UInt8) × ((Int) × (Int)))
  F := fun x => F_sp_AppendRecord x.1.1.1 x.1.1.2.1 x.1.1.2.2.1 x.1.2.1.1 x.1.2.1.2.1
  emb := fun r => ([.agg [.dat .str r.1, .dat .str r.2.1, .dat (.int .i64) r.2.2.1], .dat (.int .i64) r.2.2.2], [])

noncomputable def E_sp_AppendRecord : Env := envOf [(59, D_sp_l12Valid), (52, D_sp_l12Record), (53, D_sp_l12Line)]

noncomputable def Z_sp_AppendRecord : Nat → Nat → List Nat := fun _ _ => []

noncomputable def O_sp_AppendRecord : List (Nat × LD) := []

noncomputable def C_sp_AppendRecord : Code := (f28.body).getD .skip

/-! ### 29 loop.example/g01110/impl.AppendRecord -/

noncomputable def T_im_AppendRecord (a1_ : List UInt8) (a2_ : List UInt8) (a3_ : Int) (a4_ : List UInt8) (a5_ : List UInt8) : Tr ((List UInt8) × ((List UInt8) × ((Int) × (Int)))) :=
  .c (Bool) (F_im_IsValidLog a1_ a2_ a3_) fun r1_ =>
  .t (!r1_)
    (.l (a1_, (a2_, (a3_, (1 : Int)))))
    (.c (Bool) (F_im_IsValidRecord a4_ a5_) fun r2_ =>
      .t (!r2_)
        (.l (a1_, (a2_, (a3_, (1 : Int)))))
        (.t (a3_ == (60 : Int))
            (.l (a1_, (a2_, (a3_, (2 : Int)))))
            (.c ((List UInt8) × (Bool)) (F_im_EncodeRecord a3_ a4_ a5_) fun r3_ =>
              .g (decide (List.length a2_ + List.length r3_.1 ≤ 9223372036854775807)) <|
              .l (a1_, ((a2_ ++ r3_.1), ((IntKind.wrap .i64 (a3_ + (1 : Int))), (0 : Int)))))))

noncomputable def F_im_AppendRecord (a1_ : List UInt8) (a2_ : List UInt8) (a3_ : Int) (a4_ : List UInt8) (a5_ : List UInt8) : Option ((List UInt8) × ((List UInt8) × ((Int) × (Int)))) := (T_im_AppendRecord a1_ a2_ a3_ a4_ a5_).ev

noncomputable def A_im_AppendRecord : Sh := (.cons (.agg (.cons (.dat .str) (.cons (.dat .str) (.cons (.dat (.int .i64)) .nil)))) (.cons (.agg (.cons (.dat .str) (.cons (.dat .str) .nil))) .nil))

noncomputable def I_im_AppendRecord : List (Nat × OSh) := []

noncomputable def K_im_AppendRecord : RetK := { acts := [], res := [.cell 4 31, .tmp 5], sh := (.cons (.agg (.cons (.dat .str) (.cons (.dat .str) (.cons (.dat (.int .i64)) .nil)))) (.cons (.dat (.int .i64)) .nil)), obs := [], pins := [] }

noncomputable def D_im_AppendRecord : FD where
  A := A_im_AppendRecord
  ins := I_im_AppendRecord
  lend := []
  R := (List UInt8) × ((List UInt8) × ((Int) × (Int)))
  F := fun x => F_im_AppendRecord x.1.1.1 x.1.1.2.1 x.1.1.2.2.1 x.1.2.1.1 x.1.2.1.2.1
  emb := fun r => ([.agg [.dat .str r.1, .dat .str r.2.1, .dat (.int .i64) r.2.2.1], .dat (.int .i64) r.2.2.2], [])

noncomputable def E_im_AppendRecord : Env := envOf [(23, D_im_IsValidLog), (41, D_im_IsValidRecord), (16, D_im_EncodeRecord)]

noncomputable def Z_im_AppendRecord : Nat → Nat → List Nat := fun _ _ => []

noncomputable def O_im_AppendRecord : List (Nat × LD) := []

noncomputable def C_im_AppendRecord : Code := (f29.body).getD .skip

/-! ### 8 loop.example/g01110/laws.FnExactAppendRecord -/

noncomputable def T_lw_FnExactAppendRecord (a1_ : List UInt8) (a2_ : List UInt8) (a3_ : Int) (a4_ : List UInt8) (a5_ : List UInt8) : Tr (Bool) :=
  .c (Int) (F_lw_szLog a1_ a2_ a3_ (1048576 : Int)) fun r1_ =>
  .t (decide (r1_ < (0 : Int)))
    (.l true)
    (.c (Int) (F_lw_szLogRecord a4_ a5_ r1_) fun r2_ =>
      .t (decide (r2_ < (0 : Int)))
        (.l true)
        (.c ((List UInt8) × ((List UInt8) × (Int))) (F_lw_toLog a1_ a2_ a3_) fun r3_ =>
          .c ((List UInt8) × (List UInt8)) (F_lw_toLogRecord a4_ a5_) fun r4_ =>
          .c ((List UInt8) × ((List UInt8) × ((Int) × (Int)))) (F_sp_AppendRecord r3_.1 r3_.2.1 r3_.2.2 r4_.1 r4_.2) fun r5_ =>
          .c ((List UInt8) × ((List UInt8) × (Int))) (F_lw_toLog a1_ a2_ a3_) fun r6_ =>
          .c ((List UInt8) × (List UInt8)) (F_lw_toLogRecord a4_ a5_) fun r7_ =>
          .c ((List UInt8) × ((List UInt8) × ((Int) × (Int)))) (F_im_AppendRecord r6_.1 r6_.2.1 r6_.2.2 r7_.1 r7_.2) fun r8_ =>
          .c (Bool) (F_lw_eqLog r8_.1 r8_.2.1 r8_.2.2.1 r5_.1 r5_.2.1 r5_.2.2.1) fun r9_ =>
          .t (!r9_)
            (.l false)
            (.t (r8_.2.2.2 != r5_.2.2.2)
                (.l false)
                (.l true))))

noncomputable def F_lw_FnExactAppendRecord (a1_ : List UInt8) (a2_ : List UInt8) (a3_ : Int) (a4_ : List UInt8) (a5_ : List UInt8) : Option (Bool) := (T_lw_FnExactAppendRecord a1_ a2_ a3_ a4_ a5_).ev

noncomputable def A_lw_FnExactAppendRecord : Sh := (.cons (.agg (.cons (.dat .str) (.cons (.dat .str) (.cons (.dat (.int .i64)) .nil)))) (.cons (.agg (.cons (.dat .str) (.cons (.dat .str) .nil))) .nil))

noncomputable def I_lw_FnExactAppendRecord : List (Nat × OSh) := []

noncomputable def K_lw_FnExactAppendRecord : RetK := { acts := [], res := [.tmp 4], sh := (.cons (.dat .bool) .nil), obs := [], pins := [] }

noncomputable def D_lw_FnExactAppendRecord : FD where
  A := A_lw_FnExactAppendRecord
  ins := I_lw_FnExactAppendRecord
  lend := []
  R := Bool
  F := fun x => F_lw_FnExactAppendRecord x.1.1.1 x.1.1.2.1 x.1.1.2.2.1 x.1.2.1.1 x.1.2.1.2.1
  emb := fun r => ([.dat .bool r], [])

noncomputable def E_lw_FnExactAppendRecord : Env := envOf [(20, D_lw_szLog), (13, D_lw_szLogRecord), (22, D_lw_toLog), (15, D_lw_toLogRecord), (28, D_sp_AppendRecord), (29, D_im_AppendRecord), (19, D_lw_eqLog)]

noncomputable def Z_lw_FnExactAppendRecord : Nat → Nat → List Nat := fun _ _ => []

noncomputable def O_lw_FnExactAppendRecord : List (Nat × LD) := []

noncomputable def C_lw_FnExactAppendRecord : Code := (f8.body).getD .skip

/-! ### 91 loop.example/g01110/laws.szIntS -/

noncomputable def T_lw_szIntS (a1_ : List (Int)) (a2_ : Int) : Tr (Int) :=
  .t (decide ((IntKind.wrap .i64 (a2_ - ((List.length a1_ : Nat) : Int))) < (0 : Int)))
    (.l (-1 : Int))
    (.l (IntKind.wrap .i64 (a2_ - ((List.length a1_ : Nat) : Int))))

noncomputable def F_lw_szIntS (a1_ : List (Int)) (a2_ : Int) : Option (Int) := (T_lw_szIntS a1_ a2_).ev

noncomputable def A_lw_szIntS : Sh := (.cons (.dat (.slice (.int .i64))) (.cons (.dat (.int .i64)) .nil))

noncomputable def I_lw_szIntS : List (Nat × OSh) := []

noncomputable def K_lw_szIntS : RetK := { acts := [], res := [.tmp 4], sh := (.cons (.dat (.int .i64)) .nil), obs := [], pins := [] }

noncomputable def D_lw_szIntS : FD where
  A := A_lw_szIntS
  ins := I_lw_szIntS
  lend := []
  R := Int
  F := fun x => F_lw_szIntS x.1.1 x.1.2.1
  emb := fun r => ([.dat (.int .i64) r], [])

noncomputable def E_lw_szIntS : Env := envOf []

noncomputable def Z_lw_szIntS : Nat → Nat → List Nat := fun _ _ => []

noncomputable def O_lw_szIntS : List (Nat × LD) := []

noncomputable def C_lw_szIntS : Code := (f91.body).getD .skip

/-! ### 105 loop.example/g01110/laws.szIntSS -/

noncomputable def S_lw_szIntSS_0 (k : List (List (Int))) (v : (Int) × (Int)) : Tr (((Int) × (Int)) ⊕ ((Int) ⊕ (Unit))) :=
  .t (decide (v.2 < ((List.length k : Nat) : Int)))
    (.g (inR v.2 (List.length k)) <|
      .c (Int) (F_lw_szIntS (List.getD k (Int.toNat v.2) ([] : List (Int))) v.1) fun r4_ =>
      .t (decide (r4_ < (0 : Int)))
        (.l (.inr (.inr ())))
        (.l (.inl (r4_, (IntKind.wrap .i64 (v.2 + (1 : Int)))))))
    (.l (.inr (.inl v.1)))

noncomputable def L_lw_szIntSS_0 (k : List (List (Int))) (v : (Int) × (Int)) : Option ((Int) ⊕ (Unit)) := iter (fun v => (S_lw_szIntSS_0 k v).ev) v

noncomputable def DL_lw_szIntSS_0 : LD where
  head := { acts := [], S := { slots := [0, 1, 5], sh := (.cons (.dat (.slice (.slice (.int .i64)))) (.cons (.dat (.int .i64)) (.cons (.dat (.int .i64)) .nil))), obs := [] } }
  exits := [(0, { acts := [], S := { slots := [1], sh := (.cons (.dat (.int .i64)) .nil), obs := [] } })]
  rets := { acts := [], S := { slots := [4], sh := (.cons (.dat (.int .i64)) .nil), obs := [] } }
  K := List (List (Int))
  V := (Int) × (Int)
  R := (Int) ⊕ (Unit)
  join := fun k v => ((k, (v.1, (v.2, ()))), ())
  sk := fun t => t.1.1
  sv := fun t => (t.1.2.1, t.1.2.2.1)
  step := S_lw_szIntSS_0
  leaf := fun _ r => .s (Int) (Unit) r (fun a => .l (.exit 0 (mkSt ({ slots := [1], sh := (.cons (.dat (.int .i64)) .nil), obs := [] }) ((a, ()), ())))) (fun _ => .l (.ret (mkSt ({ slots := [4], sh := (.cons (.dat (.int .i64)) .nil), obs := [] }) (((-1 : Int), ()), ()))))

noncomputable def T_lw_szIntSS (a1_ : List (List (Int))) (a2_ : Int) : Tr (Int) :=
  .t (decide ((IntKind.wrap .i64 (a2_ - ((List.length a1_ : Nat) : Int))) < (0 : Int)))
    (.l (-1 : Int))
    (.c ((Int) ⊕ (Unit)) (L_lw_szIntSS_0 a1_ ((IntKind.wrap .i64 (a2_ - ((List.length a1_ : Nat) : Int))), (0 : Int))) fun r7_ =>
      .s (Int) (Unit) r7_
        (fun r8_ => .l r8_)
        (fun _ => .l (-1 : Int)))

noncomputable def F_lw_szIntSS (a1_ : List (List (Int))) (a2_ : Int) : Option (Int) := (T_lw_szIntSS a1_ a2_).ev

noncomputable def A_lw_szIntSS : Sh := (.cons (.dat (.slice (.slice (.int .i64)))) (.cons (.dat (.int .i64)) .nil))

noncomputable def I_lw_szIntSS : List (Nat × OSh) := []

noncomputable def K_lw_szIntSS : RetK := { acts := [], res := [.tmp 4], sh := (.cons (.dat (.int .i64)) .nil), obs := [], pins := [] }

noncomputable def D_lw_szIntSS : FD where
  A := A_lw_szIntSS
  ins := I_lw_szIntSS
  lend := []
  R := Int
  F := fun x => F_lw_szIntSS x.1.1 x.1.2.1
  emb := fun r => ([.dat (.int .i64) r], [])

noncomputable def E_lw_szIntSS : Env := envOf [(91, D_lw_szIntS)]

noncomputable def Z_lw_szIntSS : Nat → Nat → List Nat := fun _ _ => []

noncomputable def O_lw_szIntSS : List (Nat × LD) := [(0, DL_lw_szIntSS_0)]

noncomputable def C_lw_szIntSS : Code := (f105.body).getD .skip

/-! ### 90 loop.example/g01110/laws.szField -/

noncomputable def T_lw_szField (a1_ : List (Int)) (a2_ : List (List (Int))) (a3_ : Int) : Tr (Int) :=
  .c (Int) (F_lw_szIntS a1_ a3_) fun r1_ =>
  .t (decide (r1_ < (0 : Int)))
    (.l (-1 : Int))
    (.c (Int) (F_lw_szIntSS a2_ r1_) fun r2_ =>
      .t (decide (r2_ < (0 : Int)))
        (.l (-1 : Int))
        (.l r2_))

noncomputable def F_lw_szField (a1_ : List (Int)) (a2_ : List (List (Int))) (a3_ : Int) : Option (Int) := (T_lw_szField a1_ a2_ a3_).ev

noncomputable def A_lw_szField : Sh := (.cons (.agg (.cons (.dat (.slice (.int .i64))) (.cons (.dat (.slice (.slice (.int .i64)))) .nil))) (.cons (.dat (.int .i64)) .nil))

noncomputable def I_lw_szField : List (Nat × OSh) := []

noncomputable def K_lw_szField : RetK := { acts := [], res := [.tmp 4], sh := (.cons (.dat (.int .i64)) .nil), obs := [], pins := [] }

noncomputable def D_lw_szField : FD where
  A := A_lw_szField
  ins := I_lw_szField
  lend := []
  R := Int
  F := fun x => F_lw_szField x.1.1.1 x.1.1.2.1 x.1.2.1
  emb := fun r => ([.dat (.int .i64) r], [])

noncomputable def E_lw_szField : Env := envOf [(91, D_lw_szIntS), (105, D_lw_szIntSS)]

noncomputable def Z_lw_szField : Nat → Nat → List Nat := fun _ _ => []

noncomputable def O_lw_szField : List (Nat × LD) := []

noncomputable def C_lw_szField : Code := (f90.body).getD .skip

/-! ### 71 loop.example/g01110/laws.szAtlas -/

noncomputable def T_lw_szAtlas (a1_ : List (Int)) (a2_ : List (List (Int))) (a3_ : List (Int)) (_a4_ : Int) (a5_ : Int) : Tr (Int) :=
  .c (Int) (F_lw_szField a1_ a2_ a5_) fun r1_ =>
  .t (decide (r1_ < (0 : Int)))
    (.l (-1 : Int))
    (.c (Int) (F_lw_szIntS a3_ r1_) fun r2_ =>
      .t (decide (r2_ < (0 : Int)))
        (.l (-1 : Int))
        (.l r2_))

noncomputable def F_lw_szAtlas (a1_ : List (Int)) (a2_ : List (List (Int))) (a3_ : List (Int)) (a4_ : Int) (a5_ : Int) : Option (Int) := (T_lw_szAtlas a1_ a2_ a3_ a4_ a5_).ev

noncomputable def A_lw_szAtlas : Sh := (.cons (.agg (.cons (.dat (.slice (.int .i64))) (.cons (.dat (.slice (.slice (.int .i64)))) (.cons (.dat (.slice (.int .i64))) (.cons (.dat (.int .i64)) .nil))))) (.cons (.dat (.int .i64)) .nil))

noncomputable def I_lw_szAtlas : List (Nat × OSh) := []

noncomputable def K_lw_szAtlas : RetK := { acts := [], res := [.tmp 4], sh := (.cons (.dat (.int .i64)) .nil), obs := [], pins := [] }

noncomputable def D_lw_szAtlas : FD where
  A := A_lw_szAtlas
  ins := I_lw_szAtlas
  lend := []
  R := Int
  F := fun x => F_lw_szAtlas x.1.1.1 x.1.1.2.1 x.1.1.2.2.1 x.1.1.2.2.2.1 x.1.2.1
  emb := fun r => ([.dat (.int .i64) r], [])

noncomputable def E_lw_szAtlas : Env := envOf [(90, D_lw_szField), (91, D_lw_szIntS)]

noncomputable def Z_lw_szAtlas : Nat → Nat → List Nat := fun _ _ => []

noncomputable def O_lw_szAtlas : List (Nat × LD) := []

noncomputable def C_lw_szAtlas : Code := (f71.body).getD .skip

/-! ### 46 loop.example/g01110/laws.szConsole -/

noncomputable def T_lw_szConsole (a1_ : List (Int)) (a2_ : List (List (Int))) (a3_ : List (Int)) (a4_ : Int) (a5_ : List UInt8) (a6_ : List UInt8) (a7_ : Int) (a8_ : Int) : Tr (Int) :=
  .c (Int) (F_lw_szAtlas a1_ a2_ a3_ a4_ a8_) fun r1_ =>
  .t (decide (r1_ < (0 : Int)))
    (.l (-1 : Int))
    (.c (Int) (F_lw_szLog a5_ a6_ a7_ r1_) fun r2_ =>
      .t (decide (r2_ < (0 : Int)))
        (.l (-1 : Int))
        (.l r2_))

noncomputable def F_lw_szConsole (a1_ : List (Int)) (a2_ : List (List (Int))) (a3_ : List (Int)) (a4_ : Int) (a5_ : List UInt8) (a6_ : List UInt8) (a7_ : Int) (a8_ : Int) : Option (Int) := (T_lw_szConsole a1_ a2_ a3_ a4_ a5_ a6_ a7_ a8_).ev

noncomputable def A_lw_szConsole : Sh := (.cons (.agg (.cons (.dat (.slice (.int .i64))) (.cons (.dat (.slice (.slice (.int .i64)))) (.cons (.dat (.slice (.int .i64))) (.cons (.dat (.int .i64)) (.cons (.dat .str) (.cons (.dat .str) (.cons (.dat (.int .i64)) .nil)))))))) (.cons (.dat (.int .i64)) .nil))

noncomputable def I_lw_szConsole : List (Nat × OSh) := []

noncomputable def K_lw_szConsole : RetK := { acts := [], res := [.tmp 4], sh := (.cons (.dat (.int .i64)) .nil), obs := [], pins := [] }

noncomputable def D_lw_szConsole : FD where
  A := A_lw_szConsole
  ins := I_lw_szConsole
  lend := []
  R := Int
  F := fun x => F_lw_szConsole x.1.1.1 x.1.1.2.1 x.1.1.2.2.1 x.1.1.2.2.2.1 x.1.1.2.2.2.2.1 x.1.1.2.2.2.2.2.1 x.1.1.2.2.2.2.2.2.1 x.1.2.1
  emb := fun r => ([.dat (.int .i64) r], [])

noncomputable def E_lw_szConsole : Env := envOf [(71, D_lw_szAtlas), (20, D_lw_szLog)]

noncomputable def Z_lw_szConsole : Nat → Nat → List Nat := fun _ _ => []

noncomputable def O_lw_szConsole : List (Nat × LD) := []

noncomputable def C_lw_szConsole : Code := (f46.body).getD .skip

/-! ### 95 loop.example/g01110/laws.toIntS -/

noncomputable def S_lw_toIntS_0 (k : List (Int)) (v : (Int) × (List (Int))) : Tr (((Int) × (List (Int))) ⊕ (List (Int))) :=
  .t (decide (v.1 < ((List.length k : Nat) : Int)))
    (.g (inR v.1 (List.length k)) <|
      .g (inR v.1 (List.length v.2)) <|
      .g (decide ((Int.toNat v.1) < List.length v.2)) <|
      .l (.inl ((IntKind.wrap .i64 (v.1 + (1 : Int))), (List.set v.2 (Int.toNat v.1) (List.getD k (Int.toNat v.1) (0 : Int))))))
    (.l (.inr v.2))

noncomputable def L_lw_toIntS_0 (k : List (Int)) (v : (Int) × (List (Int))) : Option (List (Int)) := iter (fun v => (S_lw_toIntS_0 k v).ev) v

noncomputable def DL_lw_toIntS_0 : LD where
  head := { acts := [], S := { slots := [0, 3, 4], sh := (.cons (.dat (.slice (.int .i64))) (.cons (.arr 7) (.cons (.dat (.int .i64)) .nil))), obs := [(7, .arr 3 (.int .i64))] } }
  exits := [(0, { acts := [], S := { slots := [3], sh := (.cons (.arr 7) .nil), obs := [(7, .arr 3 (.int .i64))] } })]
  rets := { acts := [], S := { slots := [], sh := .nil, obs := [] } }
  K := List (Int)
  V := (Int) × (List (Int))
  R := List (Int)
  join := fun k v => ((k, ((), (v.1, ()))), (v.2, ()))
  sk := fun t => t.1.1
  sv := fun t => (t.1.2.2.1, t.2.1)
  step := S_lw_toIntS_0
  leaf := fun _ r => .l (.exit 0 (mkSt ({ slots := [3], sh := (.cons (.arr 7) .nil), obs := [(7, .arr 3 (.int .i64))] }) (((), ()), (r, ()))))

noncomputable def T_lw_toIntS (a1_ : List (Int)) : Tr (List (Int)) :=
  .g (decide ((0 : Int) ≤ ((List.length a1_ : Nat) : Int)) && decide (((List.length a1_ : Nat) : Int) ≤ ((List.length a1_ : Nat) : Int)) && decide (((8 : Nat) : Int) * ((List.length a1_ : Nat) : Int) ≤ 281474976710656)) <|
  .c (List (Int)) (L_lw_toIntS_0 a1_ ((0 : Int), (List.replicate (Int.toNat ((List.length a1_ : Nat) : Int)) (0 : Int)))) fun r5_ =>
  .l r5_

noncomputable def F_lw_toIntS (a1_ : List (Int)) : Option (List (Int)) := (T_lw_toIntS a1_).ev

noncomputable def A_lw_toIntS : Sh := (.cons (.dat (.slice (.int .i64))) .nil)

noncomputable def I_lw_toIntS : List (Nat × OSh) := []

noncomputable def K_lw_toIntS : RetK := { acts := [.ren 7 0], res := [.tmp 2], sh := (.cons (.arr 0) .nil), obs := [(0, .arr 3 (.int .i64))], pins := [] }

noncomputable def D_lw_toIntS : FD where
  A := A_lw_toIntS
  ins := I_lw_toIntS
  lend := []
  R := List (Int)
  F := fun x => F_lw_toIntS x.1.1
  emb := fun r => ([.arr 0], [(0, .arr 3 (.int .i64) r)])

noncomputable def E_lw_toIntS : Env := envOf []

noncomputable def Z_lw_toIntS : Nat → Nat → List Nat := fun _ _ => []

noncomputable def O_lw_toIntS : List (Nat × LD) := [(0, DL_lw_toIntS_0)]

noncomputable def C_lw_toIntS : Code := (f95.body).getD .skip

/-! ### 108 loop.example/g01110/laws.toIntSS -/

noncomputable def S_lw_toIntSS_0 (k : List (List (Int))) (v : (Int) × (List (List (Int)))) : Tr (((Int) × (List (List (Int)))) ⊕ (List (List (Int)))) :=
  .t (decide (v.1 < ((List.length k : Nat) : Int)))
    (.g (inR v.1 (List.length k)) <|
      .c (List (Int)) (F_lw_toIntS (List.getD k (Int.toNat v.1) ([] : List (Int)))) fun r4_ =>
      .g (inR v.1 (List.length v.2)) <|
      .g (decide ((Int.toNat v.1) < List.length v.2)) <|
      .l (.inl ((IntKind.wrap .i64 (v.1 + (1 : Int))), (List.set v.2 (Int.toNat v.1) r4_))))
    (.l (.inr v.2))

noncomputable def L_lw_toIntSS_0 (k : List (List (Int))) (v : (Int) × (List (List (Int)))) : Option (List (List (Int))) := iter (fun v => (S_lw_toIntSS_0 k v).ev) v

noncomputable def DL_lw_toIntSS_0 : LD where
  head := { acts := [], S := { slots := [0, 3, 4], sh := (.cons (.dat (.slice (.slice (.int .i64)))) (.cons (.arr 7) (.cons (.dat (.int .i64)) .nil))), obs := [(7, .arr 65 (.slice (.int .i64)))] } }
  exits := [(0, { acts := [], S := { slots := [3], sh := (.cons (.arr 7) .nil), obs := [(7, .arr 65 (.slice (.int .i64)))] } })]
  rets := { acts := [], S := { slots := [], sh := .nil, obs := [] } }
  K := List (List (Int))
  V := (Int) × (List (List (Int)))
  R := List (List (Int))
  join := fun k v => ((k, ((), (v.1, ()))), (v.2, ()))
  sk := fun t => t.1.1
  sv := fun t => (t.1.2.2.1, t.2.1)
  step := S_lw_toIntSS_0
  leaf := fun _ r => .l (.exit 0 (mkSt ({ slots := [3], sh := (.cons (.arr 7) .nil), obs := [(7, .arr 65 (.slice (.int .i64)))] }) (((), ()), (r, ()))))

noncomputable def T_lw_toIntSS (a1_ : List (List (Int))) : Tr (List (List (Int))) :=
  .g (decide ((0 : Int) ≤ ((List.length a1_ : Nat) : Int)) && decide (((List.length a1_ : Nat) : Int) ≤ ((List.length a1_ : Nat) : Int)) && decide (((24 : Nat) : Int) * ((List.length a1_ : Nat) : Int) ≤ 281474976710656)) <|
  .c (List (List (Int))) (L_lw_toIntSS_0 a1_ ((0 : Int), (List.replicate (Int.toNat ((List.length a1_ : Nat) : Int)) ([] : List (Int))))) fun r6_ =>
  .l r6_

noncomputable def F_lw_toIntSS (a1_ : List (List (Int))) : Option (List (List (Int))) := (T_lw_toIntSS a1_).ev

noncomputable def A_lw_toIntSS : Sh := (.cons (.dat (.slice (.slice (.int .i64)))) .nil)

noncomputable def I_lw_toIntSS : List (Nat × OSh) := []

noncomputable def K_lw_toIntSS : RetK := { acts := [.ren 7 0], res := [.tmp 2], sh := (.cons (.arr 0) .nil), obs := [(0, .arr 65 (.slice (.int .i64)))], pins := [] }

noncomputable def D_lw_toIntSS : FD where
  A := A_lw_toIntSS
  ins := I_lw_toIntSS
  lend := []
  R := List (List (Int))
  F := fun x => F_lw_toIntSS x.1.1
  emb := fun r => ([.arr 0], [(0, .arr 65 (.slice (.int .i64)) r)])

noncomputable def E_lw_toIntSS : Env := envOf [(95, D_lw_toIntS)]

noncomputable def Z_lw_toIntSS : Nat → Nat → List Nat := fun r i => match look [(5, [(8, [20])])] r with
  | some l => (look l i).getD []
  | none => []

noncomputable def O_lw_toIntSS : List (Nat × LD) := [(0, DL_lw_toIntSS_0)]

noncomputable def C_lw_toIntSS : Code := (f108.body).getD .skip

/-! ### 94 loop.example/g01110/laws.toField -/

noncomputable def T_lw_toField (a1_ : List (Int)) (a2_ : List (List (Int))) : Tr ((List (Int)) × (List (List (Int)))) :=
  .c (List (Int)) (F_lw_toIntS a1_) fun r1_ =>
  .c (List (List (Int))) (F_lw_toIntSS a2_) fun r2_ =>
  .l (r1_, r2_)

noncomputable def F_lw_toField (a1_ : List (Int)) (a2_ : List (List (Int))) : Option ((List (Int)) × (List (List (Int)))) := (T_lw_toField a1_ a2_).ev

noncomputable def A_lw_toField : Sh := (.cons (.agg (.cons (.dat (.slice (.int .i64))) (.cons (.dat (.slice (.slice (.int .i64)))) .nil))) .nil)

noncomputable def I_lw_toField : List (Nat × OSh) := []

noncomputable def K_lw_toField : RetK := { acts := [.fz 384, .fz 640], res := [.cell 2 75], sh := (.cons (.agg (.cons (.dat (.slice (.int .i64))) (.cons (.dat (.slice (.slice (.int .i64)))) .nil))) .nil), obs := [], pins := [] }

noncomputable def D_lw_toField : FD where
  A := A_lw_toField
  ins := I_lw_toField
  lend := []
  R := (List (Int)) × (List (List (Int)))
  F := fun x => F_lw_toField x.1.1.1 x.1.1.2.1
  emb := fun r => ([.agg [.dat (.slice (.int .i64)) r.1, .dat (.slice (.slice (.int .i64))) r.2]], [])

noncomputable def E_lw_toField : Env := envOf [(95, D_lw_toIntS), (108, D_lw_toIntSS)]

noncomputable def Z_lw_toField : Nat → Nat → List Nat := fun _ _ => []

noncomputable def O_lw_toField : List (Nat × LD) := []

noncomputable def C_lw_toField : Code := (f94.body).getD .skip

/-! ### 73 loop.example/g01110/laws.toAtlas -/

noncomputable def T_lw_toAtlas (a1_ : List (Int)) (a2_ : List (List (Int))) (a3_ : List (Int)) (a4_ : Int) : Tr ((List (Int)) × ((List (List (Int))) × ((List (Int)) × (Int)))) :=
  .c ((List (Int)) × (List (List (Int)))) (F_lw_toField a1_ a2_) fun r1_ =>
  .c (List (Int)) (F_lw_toIntS a3_) fun r2_ =>
  .l (r1_.1, (r1_.2, (r2_, a4_)))

noncomputable def F_lw_toAtlas (a1_ : List (Int)) (a2_ : List (List (Int))) (a3_ : List (Int)) (a4_ : Int) : Option ((List (Int)) × ((List (List (Int))) × ((List (Int)) × (Int)))) := (T_lw_toAtlas a1_ a2_ a3_ a4_).ev

noncomputable def A_lw_toAtlas : Sh := (.cons (.agg (.cons (.dat (.slice (.int .i64))) (.cons (.dat (.slice (.slice (.int .i64)))) (.cons (.dat (.slice (.int .i64))) (.cons (.dat (.int .i64)) .nil))))) .nil)

noncomputable def I_lw_toAtlas : List (Nat × OSh) := []

noncomputable def K_lw_toAtlas : RetK := { acts := [.fz 640], res := [.cell 2 77], sh := (.cons (.agg (.cons (.dat (.slice (.int .i64))) (.cons (.dat (.slice (.slice (.int .i64)))) (.cons (.dat (.slice (.int .i64))) (.cons (.dat (.int .i64)) .nil))))) .nil), obs := [], pins := [] }

noncomputable def D_lw_toAtlas : FD where
  A := A_lw_toAtlas
  ins := I_lw_toAtlas
  lend := []
  R := (List (Int)) × ((List (List (Int))) × ((List (Int)) × (Int)))
  F := fun x => F_lw_toAtlas x.1.1.1 x.1.1.2.1 x.1.1.2.2.1 x.1.1.2.2.2.1
  emb := fun r => ([.agg [.dat (.slice (.int .i64)) r.1, .dat (.slice (.slice (.int .i64))) r.2.1, .dat (.slice (.int .i64)) r.2.2.1, .dat (.int .i64) r.2.2.2]], [])

noncomputable def E_lw_toAtlas : Env := envOf [(94, D_lw_toField), (95, D_lw_toIntS)]

noncomputable def Z_lw_toAtlas : Nat → Nat → List Nat := fun _ _ => []

noncomputable def O_lw_toAtlas : List (Nat × LD) := []

noncomputable def C_lw_toAtlas : Code := (f73.body).getD .skip

/-! ### 48 loop.example/g01110/laws.toConsole -/

noncomputable def T_lw_toConsole (a1_ : List (Int)) (a2_ : List (List (Int))) (a3_ : List (Int)) (a4_ : Int) (a5_ : List UInt8) (a6_ : List UInt8) (a7_ : Int) : Tr ((List (Int)) × ((List (List (Int))) × ((List (Int)) × ((Int) × ((List UInt8) × ((List UInt8) × (Int))))))) :=
  .c ((List (Int)) × ((List (List (Int))) × ((List (Int)) × (Int)))) (F_lw_toAtlas a1_ a2_ a3_ a4_) fun r1_ =>
  .c ((List UInt8) × ((List UInt8) × (Int))) (F_lw_toLog a5_ a6_ a7_) fun r2_ =>
  .l (r1_.1, (r1_.2.1, (r1_.2.2.1, (r1_.2.2.2, (r2_.1, (r2_.2.1, r2_.2.2))))))

noncomputable def F_lw_toConsole (a1_ : List (Int)) (a2_ : List (List (Int))) (a3_ : List (Int)) (a4_ : Int) (a5_ : List UInt8) (a6_ : List UInt8) (a7_ : Int) : Option ((List (Int)) × ((List (List (Int))) × ((List (Int)) × ((Int) × ((List UInt8) × ((List UInt8) × (Int))))))) := (T_lw_toConsole a1_ a2_ a3_ a4_ a5_ a6_ a7_).ev

noncomputable def A_lw_toConsole : Sh := (.cons (.agg (.cons (.dat (.slice (.int .i64))) (.cons (.dat (.slice (.slice (.int .i64)))) (.cons (.dat (.slice (.int .i64))) (.cons (.dat (.int .i64)) (.cons (.dat .str) (.cons (.dat .str) (.cons (.dat (.int .i64)) .nil)))))))) .nil)

noncomputable def I_lw_toConsole : List (Nat × OSh) := []

noncomputable def K_lw_toConsole : RetK := { acts := [], res := [.cell 2 79], sh := (.cons (.agg (.cons (.dat (.slice (.int .i64))) (.cons (.dat (.slice (.slice (.int .i64)))) (.cons (.dat (.slice (.int .i64))) (.cons (.dat (.int .i64)) (.cons (.dat .str) (.cons (.dat .str) (.cons (.dat (.int .i64)) .nil)))))))) .nil), obs := [], pins := [] }

noncomputable def D_lw_toConsole : FD where
  A := A_lw_toConsole
  ins := I_lw_toConsole
  lend := []
  R := (List (Int)) × ((List (List (Int))) × ((List (Int)) × ((Int) × ((List UInt8) × ((List UInt8) × (Int))))))
  F := fun x => F_lw_toConsole x.1.1.1 x.1.1.2.1 x.1.1.2.2.1 x.1.1.2.2.2.1 x.1.1.2.2.2.2.1 x.1.1.2.2.2.2.2.1 x.1.1.2.2.2.2.2.2.1
  emb := fun r => ([.agg [.dat (.slice (.int .i64)) r.1, .dat (.slice (.slice (.int .i64))) r.2.1, .dat (.slice (.int .i64)) r.2.2.1, .dat (.int .i64) r.2.2.2.1, .dat .str r.2.2.2.2.1, .dat .str r.2.2.2.2.2.1, .dat (.int .i64) r.2.2.2.2.2.2]], [])

noncomputable def E_lw_toConsole : Env := envOf [(73, D_lw_toAtlas), (22, D_lw_toLog)]

noncomputable def Z_lw_toConsole : Nat → Nat → List Nat := fun _ _ => []

noncomputable def O_lw_toConsole : List (Nat × LD) := []

noncomputable def C_lw_toConsole : Code := (f48.body).getD .skip

/-! ### 106 loop.example/g01110/spec.l2Row -/

noncomputable def S_sp_l2Row_0 (k : (List (Int)) × ((Int) × (Int))) (v : Int) : Tr ((Int) ⊕ ((Unit) ⊕ (Unit))) :=
  .t (decide (v < ((List.length k.1 : Nat) : Int)))
    (.g (inR v (List.length k.1)) <|
      .c (Bool) (F_sp_l1In (List.getD k.1 (Int.toNat v) (0 : Int)) (0 : Int) k.2.2) fun r5_ =>
      .t (!r5_)
        (.l (.inr (.inr ())))
        (.l (.inl (IntKind.wrap .i64 (v + (1 : Int))))))
    (.l (.inr (.inl ())))

noncomputable def L_sp_l2Row_0 (k : (List (Int)) × ((Int) × (Int))) (v : Int) : Option ((Unit) ⊕ (Unit)) := iter (fun v => (S_sp_l2Row_0 k v).ev) v

noncomputable def DL_sp_l2Row_0 : LD where
  head := { acts := [], S := { slots := [0, 1, 2, 7], sh := (.cons (.dat (.slice (.int .i64))) (.cons (.dat (.int .i64)) (.cons (.dat (.int .i64)) (.cons (.dat (.int .i64)) .nil)))), obs := [] } }
  exits := [(0, { acts := [], S := { slots := [0, 1], sh := (.cons (.dat (.slice (.int .i64))) (.cons (.dat (.int .i64)) .nil)), obs := [] } })]
  rets := { acts := [], S := { slots := [6], sh := (.cons (.dat .bool) .nil), obs := [] } }
  K := (List (Int)) × ((Int) × (Int))
  V := Int
  R := (Unit) ⊕ (Unit)
  join := fun k v => ((k.1, (k.2.1, (k.2.2, (v, ())))), ())
  sk := fun t => (t.1.1, (t.1.2.1, t.1.2.2.1))
  sv := fun t => t.1.2.2.2.1
  step := S_sp_l2Row_0
  leaf := fun k r => .s (Unit) (Unit) r (fun _ => .l (.exit 0 (mkSt ({ slots := [0, 1], sh := (.cons (.dat (.slice (.int .i64))) (.cons (.dat (.int .i64)) .nil)), obs := [] }) ((k.1, (k.2.1, ())), ())))) (fun _ => .l (.ret (mkSt ({ slots := [6], sh := (.cons (.dat .bool) .nil), obs := [] }) ((false, ()), ()))))

noncomputable def T_sp_l2Row (a1_ : List (Int)) (a2_ : Int) (a3_ : Int) : Tr (Bool) :=
  .c ((Unit) ⊕ (Unit)) (L_sp_l2Row_0 (a1_, (a2_, a3_)) (0 : Int)) fun r9_ =>
  .s (Unit) (Unit) r9_
    (fun _ => .l (((List.length a1_ : Nat) : Int) == a2_))
    (fun _ => .l false)

noncomputable def F_sp_l2Row (a1_ : List (Int)) (a2_ : Int) (a3_ : Int) : Option (Bool) := (T_sp_l2Row a1_ a2_ a3_).ev

noncomputable def A_sp_l2Row : Sh := (.cons (.dat (.slice (.int .i64))) (.cons (.dat (.int .i64)) (.cons (.dat (.int .i64)) .nil)))

noncomputable def I_sp_l2Row : List (Nat × OSh) := []

noncomputable def K_sp_l2Row : RetK := { acts := [], res := [.tmp 6], sh := (.cons (.dat .bool) .nil), obs := [], pins := [] }

noncomputable def D_sp_l2Row : FD where
  A := A_sp_l2Row
  ins := I_sp_l2Row
  lend := []
  R := Bool
  F := fun x => F_sp_l2Row x.1.1 x.1.2.1 x.1.2.2.1
  emb := fun r => ([.dat .bool r], [])

noncomputable def E_sp_l2Row : Env := envOf [(51, D_sp_l1In)]

noncomputable def Z_sp_l2Row : Nat → Nat → List Nat := fun _ _ => []

noncomputable def O_sp_l2Row : List (Nat × LD) := [(0, DL_sp_l2Row_0)]

noncomputable def C_sp_l2Row : Code := (f106.body).getD .skip

/-! ### 92 loop.example/g01110/spec.l2Good -/

noncomputable def S_sp_l2Good_0 (k : (Int) × ((List (Int)) × (List (List (Int))))) (v : Int) : Tr ((Int) ⊕ ((Unit) ⊕ (Unit))) :=
  .t (decide (v < ((List.length k.2.2 : Nat) : Int)))
    (.g (inR v (List.length k.2.2)) <|
      .c (Bool) (F_sp_l2Row (List.getD k.2.2 (Int.toNat v) ([] : List (Int))) k.1 (99 : Int)) fun r5_ =>
      .t (!r5_)
        (.l (.inr (.inr ())))
        (.l (.inl (IntKind.wrap .i64 (v + (1 : Int))))))
    (.l (.inr (.inl ())))

noncomputable def L_sp_l2Good_0 (k : (Int) × ((List (Int)) × (List (List (Int))))) (v : Int) : Option ((Unit) ⊕ (Unit)) := iter (fun v => (S_sp_l2Good_0 k v).ev) v

noncomputable def DL_sp_l2Good_0 : LD where
  head := { acts := [], S := { slots := [1, 3, 4], sh := (.cons (.box 1 0) (.cons (.dat (.int .i64)) (.cons (.dat (.int .i64)) .nil))), obs := [(1, .cells (.cons (.dat (.slice (.int .i64))) (.cons (.dat (.slice (.slice (.int .i64)))) .nil)))] } }
  exits := [(0, { acts := [], S := { slots := [1, 3], sh := (.cons (.box 1 0) (.cons (.dat (.int .i64)) .nil)), obs := [(1, .cells (.cons (.dat (.slice (.int .i64))) (.cons (.dat (.slice (.slice (.int .i64)))) .nil)))] } })]
  rets := { acts := [], S := { slots := [2], sh := (.cons (.dat .bool) .nil), obs := [] } }
  K := (Int) × ((List (Int)) × (List (List (Int))))
  V := Int
  R := (Unit) ⊕ (Unit)
  join := fun k v => (((), (k.1, (v, ()))), ((k.2.1, (k.2.2, ())), ()))
  sk := fun t => (t.1.2.1, (t.2.1.1, t.2.1.2.1))
  sv := fun t => t.1.2.2.1
  step := S_sp_l2Good_0
  leaf := fun k r => .s (Unit) (Unit) r (fun _ => .l (.exit 0 (mkSt ({ slots := [1, 3], sh := (.cons (.box 1 0) (.cons (.dat (.int .i64)) .nil)), obs := [(1, .cells (.cons (.dat (.slice (.int .i64))) (.cons (.dat (.slice (.slice (.int .i64)))) .nil)))] }) (((), (k.1, ())), ((k.2.1, (k.2.2, ())), ()))))) (fun _ => .l (.ret (mkSt ({ slots := [2], sh := (.cons (.dat .bool) .nil), obs := [] }) ((false, ()), ()))))

noncomputable def T_sp_l2Good (a1_ : List (Int)) (a2_ : List (List (Int))) : Tr (Bool) :=
  .c ((Unit) ⊕ (Unit)) (L_sp_l2Good_0 (((List.length a1_ : Nat) : Int), (a1_, a2_)) (0 : Int)) fun r10_ =>
  .s (Unit) (Unit) r10_
    (fun _ => .c (Bool) (F_sp_l1In ((List.length a1_ : Nat) : Int) (1 : Int) (7 : Int)) fun r13_ =>
      .t r13_
        (.c (Bool) (F_sp_l2Row a1_ ((List.length a1_ : Nat) : Int) (99 : Int)) fun r14_ =>
          .t r14_
            (.l (decide (((List.length a2_ : Nat) : Int) ≤ (7 : Int))))
            (.l false))
        (.l false))
    (fun _ => .l false)

noncomputable def F_sp_l2Good (a1_ : List (Int)) (a2_ : List (List (Int))) : Option (Bool) := (T_sp_l2Good a1_ a2_).ev

noncomputable def A_sp_l2Good : Sh := (.cons (.agg (.cons (.dat (.slice (.int .i64))) (.cons (.dat (.slice (.slice (.int .i64)))) .nil))) .nil)

noncomputable def I_sp_l2Good : List (Nat × OSh) := []

noncomputable def K_sp_l2Good : RetK := { acts := [], res := [.tmp 2], sh := (.cons (.dat .bool) .nil), obs := [], pins := [] }

noncomputable def D_sp_l2Good : FD where
  A := A_sp_l2Good
  ins := I_sp_l2Good
  lend := []
  R := Bool
  F := fun x => F_sp_l2Good x.1.1.1 x.1.1.2.1
  emb := fun r => ([.dat .bool r], [])

noncomputable def E_sp_l2Good : Env := envOf [(106, D_sp_l2Row), (51, D_sp_l1In)]

noncomputable def Z_sp_l2Good : Nat → Nat → List Nat := fun _ _ => []

noncomputable def O_sp_l2Good : List (Nat × LD) := [(0, DL_sp_l2Good_0)]

noncomputable def C_sp_l2Good : Code := (f92.body).getD .skip

/-! ### 107 loop.example/g01110/spec.l1Rising -/

noncomputable def S_sp_l1Rising_0 (k : (List (Int)) × ((Int) × (Int))) (v : Int) : Tr ((Int) ⊕ ((Unit) ⊕ (Unit))) :=
  .t (decide (v < ((List.length k.1 : Nat) : Int)))
    (.g (inR v (List.length k.1)) <|
      .c (Bool) (F_sp_l1In (List.getD k.1 (Int.toNat v) (0 : Int)) k.2.1 k.2.2) fun r5_ =>
      .t (!r5_)
        (.l (.inr (.inr ())))
        (.t (decide ((0 : Int) < v))
            (.g (inR (IntKind.wrap .i64 (v - (1 : Int))) (List.length k.1)) <|
              .g (inR v (List.length k.1)) <|
              .t (decide ((List.getD k.1 (Int.toNat v) (0 : Int)) ≤ (List.getD k.1 (Int.toNat (IntKind.wrap .i64 (v - (1 : Int)))) (0 : Int))))
                (.l (.inr (.inr ())))
                (.l (.inl (IntKind.wrap .i64 (v + (1 : Int))))))
            (.l (.inl (IntKind.wrap .i64 (v + (1 : Int)))))))
    (.l (.inr (.inl ())))

noncomputable def L_sp_l1Rising_0 (k : (List (Int)) × ((Int) × (Int))) (v : Int) : Option ((Unit) ⊕ (Unit)) := iter (fun v => (S_sp_l1Rising_0 k v).ev) v

noncomputable def DL_sp_l1Rising_0 : LD where
  head := { acts := [], S := { slots := [0, 1, 2, 7], sh := (.cons (.dat (.slice (.int .i64))) (.cons (.dat (.int .i64)) (.cons (.dat (.int .i64)) (.cons (.dat (.int .i64)) .nil)))), obs := [] } }
  exits := [(0, { acts := [], S := { slots := [], sh := .nil, obs := [] } })]
  rets := { acts := [], S := { slots := [6], sh := (.cons (.dat .bool) .nil), obs := [] } }
  K := (List (Int)) × ((Int) × (Int))
  V := Int
  R := (Unit) ⊕ (Unit)
  join := fun k v => ((k.1, (k.2.1, (k.2.2, (v, ())))), ())
  sk := fun t => (t.1.1, (t.1.2.1, t.1.2.2.1))
  sv := fun t => t.1.2.2.2.1
  step := S_sp_l1Rising_0
  leaf := fun _ r => .s (Unit) (Unit) r (fun _ => .l (.exit 0 (mkSt ({ slots := [], sh := .nil, obs := [] }) ((), ())))) (fun _ => .l (.ret (mkSt ({ slots := [6], sh := (.cons (.dat .bool) .nil), obs := [] }) ((false, ()), ()))))

noncomputable def T_sp_l1Rising (a1_ : List (Int)) (a2_ : Int) (a3_ : Int) : Tr (Bool) :=
  .c ((Unit) ⊕ (Unit)) (L_sp_l1Rising_0 (a1_, (a2_, a3_)) (0 : Int)) fun r7_ =>
  .s (Unit) (Unit) r7_
    (fun _ => .l true)
    (fun _ => .l false)

noncomputable def F_sp_l1Rising (a1_ : List (Int)) (a2_ : Int) (a3_ : Int) : Option (Bool) := (T_sp_l1Rising a1_ a2_ a3_).ev

noncomputable def A_sp_l1Rising : Sh := (.cons (.dat (.slice (.int .i64))) (.cons (.dat (.int .i64)) (.cons (.dat (.int .i64)) .nil)))

noncomputable def I_sp_l1Rising : List (Nat × OSh) := []

noncomputable def K_sp_l1Rising : RetK := { acts := [], res := [.tmp 6], sh := (.cons (.dat .bool) .nil), obs := [], pins := [] }

noncomputable def D_sp_l1Rising : FD where
  A := A_sp_l1Rising
  ins := I_sp_l1Rising
  lend := []
  R := Bool
  F := fun x => F_sp_l1Rising x.1.1 x.1.2.1 x.1.2.2.1
  emb := fun r => ([.dat .bool r], [])

noncomputable def E_sp_l1Rising : Env := envOf [(51, D_sp_l1In)]

noncomputable def Z_sp_l1Rising : Nat → Nat → List Nat := fun _ _ => []

noncomputable def O_sp_l1Rising : List (Nat × LD) := [(0, DL_sp_l1Rising_0)]

noncomputable def C_sp_l1Rising : Code := (f107.body).getD .skip

/-! ### 93 loop.example/g01110/spec.l2Set -/

noncomputable def T_sp_l2Set (a1_ : List (Int)) (_a2_ : List (List (Int))) (a3_ : List (Int)) : Tr (Bool) :=
  .c (Bool) (F_sp_l1Rising a3_ (0 : Int) (IntKind.wrap .i64 (((List.length a1_ : Nat) : Int) - (1 : Int)))) fun r1_ =>
  .l r1_

noncomputable def F_sp_l2Set (a1_ : List (Int)) (a2_ : List (List (Int))) (a3_ : List (Int)) : Option (Bool) := (T_sp_l2Set a1_ a2_ a3_).ev

noncomputable def A_sp_l2Set : Sh := (.cons (.agg (.cons (.dat (.slice (.int .i64))) (.cons (.dat (.slice (.slice (.int .i64)))) .nil))) (.cons (.dat (.slice (.int .i64))) .nil))

noncomputable def I_sp_l2Set : List (Nat × OSh) := []

noncomputable def K_sp_l2Set : RetK := { acts := [], res := [.tmp 4], sh := (.cons (.dat .bool) .nil), obs := [], pins := [] }

noncomputable def D_sp_l2Set : FD where
  A := A_sp_l2Set
  ins := I_sp_l2Set
  lend := []
  R := Bool
  F := fun x => F_sp_l2Set x.1.1.1 x.1.1.2.1 x.1.2.1
  emb := fun r => ([.dat .bool r], [])

noncomputable def E_sp_l2Set : Env := envOf [(107, D_sp_l1Rising)]

noncomputable def Z_sp_l2Set : Nat → Nat → List Nat := fun _ _ => []

noncomputable def O_sp_l2Set : List (Nat × LD) := []

noncomputable def C_sp_l2Set : Code := (f93.body).getD .skip

/-! ### 72 loop.example/g01110/spec.l12Good -/

noncomputable def T_sp_l12Good (a1_ : List (Int)) (a2_ : List (List (Int))) (a3_ : List (Int)) (a4_ : Int) : Tr (Bool) :=
  .c (Bool) (F_sp_l2Good a1_ a2_) fun r1_ =>
  .t r1_
    (.c (Bool) (F_sp_l2Set a1_ a2_ a3_) fun r2_ =>
      .t r2_
        (.c (Bool) (F_sp_l1In a4_ (0 : Int) (1000 : Int)) fun r3_ =>
          .l r3_)
        (.l false))
    (.l false)

noncomputable def F_sp_l12Good (a1_ : List (Int)) (a2_ : List (List (Int))) (a3_ : List (Int)) (a4_ : Int) : Option (Bool) := (T_sp_l12Good a1_ a2_ a3_ a4_).ev

noncomputable def A_sp_l12Good : Sh := (.cons (.agg (.cons (.dat (.slice (.int .i64))) (.cons (.dat (.slice (.slice (.int .i64)))) (.cons (.dat (.slice (.int .i64))) (.cons (.dat (.int .i64)) .nil))))) .nil)

noncomputable def I_sp_l12Good : List (Nat × OSh) := []

noncomputable def K_sp_l12Good : RetK := { acts := [], res := [.tmp 2], sh := (.cons (.dat .bool) .nil), obs := [], pins := [] }

noncomputable def D_sp_l12Good : FD where
  A := A_sp_l12Good
  ins := I_sp_l12Good
  lend := []
  R := Bool
  F := fun x => F_sp_l12Good x.1.1.1 x.1.1.2.1 x.1.1.2.2.1 x.1.1.2.2.2.1
  emb := fun r => ([.dat .bool r], [])

noncomputable def E_sp_l12Good : Env := envOf [(92, D_sp_l2Good), (93, D_sp_l2Set), (51, D_sp_l1In)]

noncomputable def Z_sp_l12Good : Nat → Nat → List Nat := fun _ _ => []

noncomputable def O_sp_l12Good : List (Nat × LD) := []

noncomputable def C_sp_l12Good : Code := (f72.body).getD .skip

/-! ### 47 loop.example/g01110/spec.IsValidConsole -/

noncomputable def T_sp_IsValidConsole (a1_ : List (Int)) (a2_ : List (List (Int))) (a3_ : List (Int)) (a4_ : Int) (a5_ : List UInt8) (a6_ : List UInt8) (a7_ : Int) : Tr (Bool) :=
  .c (Bool) (F_sp_l12Good a1_ a2_ a3_ a4_) fun r1_ =>
  .t r1_
    (.c (Bool) (F_sp_l12Valid a5_ a6_ a7_) fun r2_ =>
      .l r2_)
    (.l false)

noncomputable def F_sp_IsValidConsole (a1_ : List (Int)) (a2_ : List (List (Int))) (a3_ : List (Int)) (a4_ : Int) (a5_ : List UInt8) (a6_ : List UInt8) (a7_ : Int) : Option (Bool) := (T_sp_IsValidConsole a1_ a2_ a3_ a4_ a5_ a6_ a7_).ev

noncomputable def A_sp_IsValidConsole : Sh := (.cons (.agg (.cons (.dat (.slice (.int .i64))) (.cons (.dat (.slice (.slice (.int .i64)))) (.cons (.dat (.slice (.int .i64))) (.cons (.dat (.int .i64)) (.cons (.dat .str) (.cons (.dat .str) (.cons (.dat (.int .i64)) .nil)))))))) .nil)

noncomputable def I_sp_IsValidConsole : List (Nat × OSh) := []

noncomputable def K_sp_IsValidConsole : RetK := { acts := [], res := [.tmp 2], sh := (.cons (.dat .bool) .nil), obs := [], pins := [] }

noncomputable def D_sp_IsValidConsole : FD where
  A := A_sp_IsValidConsole
  ins := I_sp_IsValidConsole
  lend := []
  R := Bool
  F := fun x => F_sp_IsValidConsole x.1.1.1 x.1.1.2.1 x.1.1.2.2.1 x.1.1.2.2.2.1 x.1.1.2.2.2.2.1 x.1.1.2.2.2.2.2.1 x.1.1.2.2.2.2.2.2.1
  emb := fun r => ([.dat .bool r], [])

noncomputable def E_sp_IsValidConsole : Env := envOf [(72, D_sp_l12Good), (59, D_sp_l12Valid)]

noncomputable def Z_sp_IsValidConsole : Nat → Nat → List Nat := fun _ _ => []

noncomputable def O_sp_IsValidConsole : List (Nat × LD) := []

noncomputable def C_sp_IsValidConsole : Code := (f47.body).getD .skip

/-! ### 130 slices.IndexFunc[[]int,int] -/

noncomputable def S_slices_IndexFunc_Sint_int_0 (k : (List (Int)) × (((HL [(.int .i64)] → Option (Bool))) × (Int))) (v : Int) : Tr ((Int) ⊕ ((Unit) ⊕ (Int))) :=
  .t (decide (v < k.2.2))
    (.g (inR v (List.length k.1)) <|
      .c (Bool) (k.2.1 ((List.getD k.1 (Int.toNat v) (0 : Int)), ())) fun r5_ =>
      .t r5_
        (.l (.inr (.inr v)))
        (.l (.inl (IntKind.wrap .i64 (v + (1 : Int))))))
    (.l (.inr (.inl ())))

noncomputable def L_slices_IndexFunc_Sint_int_0 (k : (List (Int)) × (((HL [(.int .i64)] → Option (Bool))) × (Int))) (v : Int) : Option ((Unit) ⊕ (Int)) := iter (fun v => (S_slices_IndexFunc_Sint_int_0 k v).ev) v

noncomputable def DL_slices_IndexFunc_Sint_int_0 : LD where
  head := { acts := [], S := { slots := [0, 1, 7, 8], sh := (.cons (.dat (.slice (.int .i64))) (.cons (.clo [(.int .i64)] .bool) (.cons (.dat (.int .i64)) (.cons (.dat (.int .i64)) .nil)))), obs := [] } }
  exits := [(0, { acts := [], S := { slots := [], sh := .nil, obs := [] } })]
  rets := { acts := [], S := { slots := [4], sh := (.cons (.dat (.int .i64)) .nil), obs := [] } }
  K := (List (Int)) × (((HL [(.int .i64)] → Option (Bool))) × (Int))
  V := Int
  R := (Unit) ⊕ (Int)
  join := fun k v => ((k.1, (k.2.1, (k.2.2, (v, ())))), ())
  sk := fun t => (t.1.1, (t.1.2.1, t.1.2.2.1))
  sv := fun t => t.1.2.2.2.1
  step := S_slices_IndexFunc_Sint_int_0
  leaf := fun _ r => .s (Unit) (Int) r (fun _ => .l (.exit 0 (mkSt ({ slots := [], sh := .nil, obs := [] }) ((), ())))) (fun b => .l (.ret (mkSt ({ slots := [4], sh := (.cons (.dat (.int .i64)) .nil), obs := [] }) ((b, ()), ()))))

noncomputable def T_slices_IndexFunc_Sint_int (a1_ : List (Int)) (a2_ : (HL [(.int .i64)] → Option (Bool))) : Tr (Int) :=
  .c ((Unit) ⊕ (Int)) (L_slices_IndexFunc_Sint_int_0 (a1_, (a2_, ((List.length a1_ : Nat) : Int))) (0 : Int)) fun r7_ =>
  .s (Unit) (Int) r7_
    (fun _ => .l (-1 : Int))
    (fun r9_ => .l r9_)

noncomputable def F_slices_IndexFunc_Sint_int (a1_ : List (Int)) (a2_ : (HL [(.int .i64)] → Option (Bool))) : Option (Int) := (T_slices_IndexFunc_Sint_int a1_ a2_).ev

noncomputable def A_slices_IndexFunc_Sint_int : Sh := (.cons (.dat (.slice (.int .i64))) (.cons (.clo [(.int .i64)] .bool) .nil))

noncomputable def I_slices_IndexFunc_Sint_int : List (Nat × OSh) := []

noncomputable def K_slices_IndexFunc_Sint_int : RetK := { acts := [], res := [.tmp 4], sh := (.cons (.dat (.int .i64)) .nil), obs := [], pins := [] }

noncomputable def D_slices_IndexFunc_Sint_int : FD where
  A := A_slices_IndexFunc_Sint_int
  ins := I_slices_IndexFunc_Sint_int
  lend := []
  R := Int
  F := fun x => F_slices_IndexFunc_Sint_int x.1.1 x.1.2.1
  emb := fun r => ([.dat (.int .i64) r], [])

noncomputable def E_slices_IndexFunc_Sint_int : Env := envOf []

noncomputable def Z_slices_IndexFunc_Sint_int : Nat → Nat → List Nat := fun _ _ => []

noncomputable def O_slices_IndexFunc_Sint_int : List (Nat × LD) := [(0, DL_slices_IndexFunc_Sint_int_0)]

noncomputable def C_slices_IndexFunc_Sint_int : Code := (f130.body).getD .skip

/-! ### 121 slices.ContainsFunc[[]int,int] -/

noncomputable def T_slices_ContainsFunc_Sint_int (a1_ : List (Int)) (a2_ : (HL [(.int .i64)] → Option (Bool))) : Tr (Bool) :=
  .c (Int) (F_slices_IndexFunc_Sint_int a1_ a2_) fun r1_ =>
  .l (decide ((0 : Int) ≤ r1_))

noncomputable def F_slices_ContainsFunc_Sint_int (a1_ : List (Int)) (a2_ : (HL [(.int .i64)] → Option (Bool))) : Option (Bool) := (T_slices_ContainsFunc_Sint_int a1_ a2_).ev

noncomputable def A_slices_ContainsFunc_Sint_int : Sh := (.cons (.dat (.slice (.int .i64))) (.cons (.clo [(.int .i64)] .bool) .nil))

noncomputable def I_slices_ContainsFunc_Sint_int : List (Nat × OSh) := []

noncomputable def K_slices_ContainsFunc_Sint_int : RetK := { acts := [], res := [.tmp 4], sh := (.cons (.dat .bool) .nil), obs := [], pins := [] }

noncomputable def D_slices_ContainsFunc_Sint_int : FD where
  A := A_slices_ContainsFunc_Sint_int
  ins := I_slices_ContainsFunc_Sint_int
  lend := []
  R := Bool
  F := fun x => F_slices_ContainsFunc_Sint_int x.1.1 x.1.2.1
  emb := fun r => ([.dat .bool r], [])

noncomputable def E_slices_ContainsFunc_Sint_int : Env := envOf [(130, D_slices_IndexFunc_Sint_int)]

noncomputable def Z_slices_ContainsFunc_Sint_int : Nat → Nat → List Nat := fun _ _ => []

noncomputable def O_slices_ContainsFunc_Sint_int : List (Nat × LD) := []

noncomputable def C_slices_ContainsFunc_Sint_int : Code := (f121.body).getD .skip

/-! ### 122 loop.example/g01110/impl.areBetween 1 -/

noncomputable def T_im_areBetween_1 (a1_ : Int) (a2_ : Int) (a3_ : Int) : Tr (Bool) :=
  .c (Bool) (F_im_between a1_ a2_ a3_) fun r1_ =>
  .l (!r1_)

noncomputable def F_im_areBetween_1 (a1_ : Int) (a2_ : Int) (a3_ : Int) : Option (Bool) := (T_im_areBetween_1 a1_ a2_ a3_).ev

noncomputable def A_im_areBetween_1 : Sh := (.cons (.dat (.int .i64)) (.cons (.ptr (.cons (.dat (.int .i64)) .nil)) (.cons (.ptr (.cons (.dat (.int .i64)) .nil)) .nil)))

noncomputable def I_im_areBetween_1 : List (Nat × OSh) := []

noncomputable def K_im_areBetween_1 : RetK := { acts := [], res := [.tmp 4], sh := (.cons (.dat .bool) .nil), obs := [], pins := [] }

noncomputable def D_im_areBetween_1 : FD where
  A := A_im_areBetween_1
  ins := I_im_areBetween_1
  lend := []
  R := Bool
  F := fun x => F_im_areBetween_1 x.1.1 x.1.2.1.1 x.1.2.2.1.1
  emb := fun r => ([.dat .bool r], [])

noncomputable def E_im_areBetween_1 : Env := envOf [(54, D_im_between)]

noncomputable def Z_im_areBetween_1 : Nat → Nat → List Nat := fun _ _ => []

noncomputable def O_im_areBetween_1 : List (Nat × LD) := []

noncomputable def C_im_areBetween_1 : Code := (f122.body).getD .skip

/-! ### 109 loop.example/g01110/impl.areBetween -/

noncomputable def T_im_areBetween (a1_ : List (Int)) (a2_ : Int) (a3_ : Int) : Tr (Bool) :=
  .c (Bool) (F_slices_ContainsFunc_Sint_int a1_ (fun h1_ => Option.bind (F_im_areBetween_1 h1_.1 a2_ a3_) fun y2_ => some y2_)) fun r3_ =>
  .l (!r3_)

noncomputable def F_im_areBetween (a1_ : List (Int)) (a2_ : Int) (a3_ : Int) : Option (Bool) := (T_im_areBetween a1_ a2_ a3_).ev

noncomputable def A_im_areBetween : Sh := (.cons (.dat (.slice (.int .i64))) (.cons (.dat (.int .i64)) (.cons (.dat (.int .i64)) .nil)))

noncomputable def I_im_areBetween : List (Nat × OSh) := []

noncomputable def K_im_areBetween : RetK := { acts := [], res := [.tmp 6], sh := (.cons (.dat .bool) .nil), obs := [], pins := [] }

noncomputable def D_im_areBetween : FD where
  A := A_im_areBetween
  ins := I_im_areBetween
  lend := []
  R := Bool
  F := fun x => F_im_areBetween x.1.1 x.1.2.1 x.1.2.2.1
  emb := fun r => ([.dat .bool r], [])

noncomputable def E_im_areBetween : Env := envOf [(121, D_slices_ContainsFunc_Sint_int), (122, D_im_areBetween_1)]

noncomputable def Z_im_areBetween : Nat → Nat → List Nat := fun _ _ => []

noncomputable def O_im_areBetween : List (Nat × LD) := []

noncomputable def C_im_areBetween : Code := (f109.body).getD .skip

/-! ### 123 slices.IndexFunc[[][]int,[]int] -/

noncomputable def S_slices_IndexFunc_SSint_Sint_0 (k : (List (List (Int))) × (((HL [(.slice (.int .i64))] → Option (Bool))) × (Int))) (v : Int) : Tr ((Int) ⊕ ((Unit) ⊕ (Int))) :=
  .t (decide (v < k.2.2))
    (.g (inR v (List.length k.1)) <|
      .c (Bool) (k.2.1 ((List.getD k.1 (Int.toNat v) ([] : List (Int))), ())) fun r5_ =>
      .t r5_
        (.l (.inr (.inr v)))
        (.l (.inl (IntKind.wrap .i64 (v + (1 : Int))))))
    (.l (.inr (.inl ())))

noncomputable def L_slices_IndexFunc_SSint_Sint_0 (k : (List (List (Int))) × (((HL [(.slice (.int .i64))] → Option (Bool))) × (Int))) (v : Int) : Option ((Unit) ⊕ (Int)) := iter (fun v => (S_slices_IndexFunc_SSint_Sint_0 k v).ev) v

noncomputable def DL_slices_IndexFunc_SSint_Sint_0 : LD where
  head := { acts := [], S := { slots := [0, 1, 7, 8], sh := (.cons (.dat (.slice (.slice (.int .i64)))) (.cons (.clo [(.slice (.int .i64))] .bool) (.cons (.dat (.int .i64)) (.cons (.dat (.int .i64)) .nil)))), obs := [] } }
  exits := [(0, { acts := [], S := { slots := [], sh := .nil, obs := [] } })]
  rets := { acts := [], S := { slots := [4], sh := (.cons (.dat (.int .i64)) .nil), obs := [] } }
  K := (List (List (Int))) × (((HL [(.slice (.int .i64))] → Option (Bool))) × (Int))
  V := Int
  R := (Unit) ⊕ (Int)
  join := fun k v => ((k.1, (k.2.1, (k.2.2, (v, ())))), ())
  sk := fun t => (t.1.1, (t.1.2.1, t.1.2.2.1))
  sv := fun t => t.1.2.2.2.1
  step := S_slices_IndexFunc_SSint_Sint_0
  leaf := fun _ r => .s (Unit) (Int) r (fun _ => .l (.exit 0 (mkSt ({ slots := [], sh := .nil, obs := [] }) ((), ())))) (fun b => .l (.ret (mkSt ({ slots := [4], sh := (.cons (.dat (.int .i64)) .nil), obs := [] }) ((b, ()), ()))))

noncomputable def T_slices_IndexFunc_SSint_Sint (a1_ : List (List (Int))) (a2_ : (HL [(.slice (.int .i64))] → Option (Bool))) : Tr (Int) :=
  .c ((Unit) ⊕ (Int)) (L_slices_IndexFunc_SSint_Sint_0 (a1_, (a2_, ((List.length a1_ : Nat) : Int))) (0 : Int)) fun r7_ =>
  .s (Unit) (Int) r7_
    (fun _ => .l (-1 : Int))
    (fun r9_ => .l r9_)

noncomputable def F_slices_IndexFunc_SSint_Sint (a1_ : List (List (Int))) (a2_ : (HL [(.slice (.int .i64))] → Option (Bool))) : Option (Int) := (T_slices_IndexFunc_SSint_Sint a1_ a2_).ev

noncomputable def A_slices_IndexFunc_SSint_Sint : Sh := (.cons (.dat (.slice (.slice (.int .i64)))) (.cons (.clo [(.slice (.int .i64))] .bool) .nil))

noncomputable def I_slices_IndexFunc_SSint_Sint : List (Nat × OSh) := []

noncomputable def K_slices_IndexFunc_SSint_Sint : RetK := { acts := [], res := [.tmp 4], sh := (.cons (.dat (.int .i64)) .nil), obs := [], pins := [] }

noncomputable def D_slices_IndexFunc_SSint_Sint : FD where
  A := A_slices_IndexFunc_SSint_Sint
  ins := I_slices_IndexFunc_SSint_Sint
  lend := []
  R := Int
  F := fun x => F_slices_IndexFunc_SSint_Sint x.1.1 x.1.2.1
  emb := fun r => ([.dat (.int .i64) r], [])

noncomputable def E_slices_IndexFunc_SSint_Sint : Env := envOf []

noncomputable def Z_slices_IndexFunc_SSint_Sint : Nat → Nat → List Nat := fun _ _ => []

noncomputable def O_slices_IndexFunc_SSint_Sint : List (Nat × LD) := [(0, DL_slices_IndexFunc_SSint_Sint_0)]

noncomputable def C_slices_IndexFunc_SSint_Sint : Code := (f123.body).getD .skip

/-! ### 110 slices.ContainsFunc[[][]int,[]int] -/

noncomputable def T_slices_ContainsFunc_SSint_Sint (a1_ : List (List (Int))) (a2_ : (HL [(.slice (.int .i64))] → Option (Bool))) : Tr (Bool) :=
  .c (Int) (F_slices_IndexFunc_SSint_Sint a1_ a2_) fun r1_ =>
  .l (decide ((0 : Int) ≤ r1_))

noncomputable def F_slices_ContainsFunc_SSint_Sint (a1_ : List (List (Int))) (a2_ : (HL [(.slice (.int .i64))] → Option (Bool))) : Option (Bool) := (T_slices_ContainsFunc_SSint_Sint a1_ a2_).ev

noncomputable def A_slices_ContainsFunc_SSint_Sint : Sh := (.cons (.dat (.slice (.slice (.int .i64)))) (.cons (.clo [(.slice (.int .i64))] .bool) .nil))

noncomputable def I_slices_ContainsFunc_SSint_Sint : List (Nat × OSh) := []

noncomputable def K_slices_ContainsFunc_SSint_Sint : RetK := { acts := [], res := [.tmp 4], sh := (.cons (.dat .bool) .nil), obs := [], pins := [] }

noncomputable def D_slices_ContainsFunc_SSint_Sint : FD where
  A := A_slices_ContainsFunc_SSint_Sint
  ins := I_slices_ContainsFunc_SSint_Sint
  lend := []
  R := Bool
  F := fun x => F_slices_ContainsFunc_SSint_Sint x.1.1 x.1.2.1
  emb := fun r => ([.dat .bool r], [])

noncomputable def E_slices_ContainsFunc_SSint_Sint : Env := envOf [(123, D_slices_IndexFunc_SSint_Sint)]

noncomputable def Z_slices_ContainsFunc_SSint_Sint : Nat → Nat → List Nat := fun _ _ => []

noncomputable def O_slices_ContainsFunc_SSint_Sint : List (Nat × LD) := []

noncomputable def C_slices_ContainsFunc_SSint_Sint : Code := (f110.body).getD .skip

/-! ### 111 loop.example/g01110/impl.IsField 1 -/

noncomputable def T_im_IsField_1 (a1_ : List (Int)) (a2_ : List (Int)) (_a3_ : List (List (Int))) : Tr (Bool) :=
  .t (((List.length a1_ : Nat) : Int) != ((List.length a2_ : Nat) : Int))
    (.l true)
    (.c (Bool) (F_im_areBetween a1_ (0 : Int) (99 : Int)) fun r1_ =>
      .l (!r1_))

noncomputable def F_im_IsField_1 (a1_ : List (Int)) (a2_ : List (Int)) (a3_ : List (List (Int))) : Option (Bool) := (T_im_IsField_1 a1_ a2_ a3_).ev

noncomputable def A_im_IsField_1 : Sh := (.cons (.dat (.slice (.int .i64))) (.cons (.ptr (.cons (.dat (.slice (.int .i64))) (.cons (.dat (.slice (.slice (.int .i64)))) .nil))) .nil))

noncomputable def I_im_IsField_1 : List (Nat × OSh) := []

noncomputable def K_im_IsField_1 : RetK := { acts := [], res := [.tmp 3], sh := (.cons (.dat .bool) .nil), obs := [], pins := [] }

noncomputable def D_im_IsField_1 : FD where
  A := A_im_IsField_1
  ins := I_im_IsField_1
  lend := []
  R := Bool
  F := fun x => F_im_IsField_1 x.1.1 x.1.2.1.1 x.1.2.1.2.1
  emb := fun r => ([.dat .bool r], [])

noncomputable def E_im_IsField_1 : Env := envOf [(109, D_im_areBetween)]

noncomputable def Z_im_IsField_1 : Nat → Nat → List Nat := fun _ _ => []

noncomputable def O_im_IsField_1 : List (Nat × LD) := []

noncomputable def C_im_IsField_1 : Code := (f111.body).getD .skip

/-! ### 96 loop.example/g01110/impl.IsField -/

noncomputable def T_im_IsField (a1_ : List (Int)) (a2_ : List (List (Int))) : Tr (Bool) :=
  .c (Bool) (F_im_between ((List.length a1_ : Nat) : Int) (1 : Int) (7 : Int)) fun r1_ =>
  .t r1_
    (.c (Bool) (F_im_areBetween a1_ (0 : Int) (99 : Int)) fun r2_ =>
      .t r2_
        (.t (decide (((List.length a2_ : Nat) : Int) ≤ (7 : Int)))
            (.c (Bool) (F_slices_ContainsFunc_SSint_Sint a2_ (fun h3_ => Option.bind (F_im_IsField_1 h3_.1 a1_ a2_) fun y4_ => some y4_)) fun r5_ =>
              .l (!r5_))
            (.l false))
        (.l false))
    (.l false)

noncomputable def F_im_IsField (a1_ : List (Int)) (a2_ : List (List (Int))) : Option (Bool) := (T_im_IsField a1_ a2_).ev

noncomputable def A_im_IsField : Sh := (.cons (.agg (.cons (.dat (.slice (.int .i64))) (.cons (.dat (.slice (.slice (.int .i64)))) .nil))) .nil)

noncomputable def I_im_IsField : List (Nat × OSh) := []

noncomputable def K_im_IsField : RetK := { acts := [], res := [.tmp 2], sh := (.cons (.dat .bool) .nil), obs := [], pins := [] }

noncomputable def D_im_IsField : FD where
  A := A_im_IsField
  ins := I_im_IsField
  lend := []
  R := Bool
  F := fun x => F_im_IsField x.1.1.1 x.1.1.2.1
  emb := fun r => ([.dat .bool r], [])

noncomputable def E_im_IsField : Env := envOf [(54, D_im_between), (109, D_im_areBetween), (110, D_slices_ContainsFunc_SSint_Sint), (111, D_im_IsField_1)]

noncomputable def Z_im_IsField : Nat → Nat → List Nat := fun _ _ => []

noncomputable def O_im_IsField : List (Nat × LD) := []

noncomputable def C_im_IsField : Code := (f96.body).getD .skip

/-! ### 97 loop.example/g01110/impl.isRising -/

noncomputable def S_im_isRising_0 (k : (List (Int)) × ((Int) × ((List (Int)) × (Int)))) (v : Int) : Tr ((Int) ⊕ ((Unit) ⊕ (Unit))) :=
  .t (decide (v < k.2.2.2))
    (.g (inR v (List.length k.2.2.1)) <|
      .c (Bool) (F_im_between (List.getD k.2.2.1 (Int.toNat v) (0 : Int)) (0 : Int) (IntKind.wrap .i64 (k.2.1 - (1 : Int)))) fun r6_ =>
      .t (!r6_)
        (.l (.inr (.inr ())))
        (.t (decide ((0 : Int) < v))
            (.g (inR (IntKind.wrap .i64 (v - (1 : Int))) (List.length k.1)) <|
              .t (decide ((List.getD k.2.2.1 (Int.toNat v) (0 : Int)) ≤ (List.getD k.1 (Int.toNat (IntKind.wrap .i64 (v - (1 : Int)))) (0 : Int))))
                (.l (.inr (.inr ())))
                (.l (.inl (IntKind.wrap .i64 (v + (1 : Int))))))
            (.l (.inl (IntKind.wrap .i64 (v + (1 : Int)))))))
    (.l (.inr (.inl ())))

noncomputable def L_im_isRising_0 (k : (List (Int)) × ((Int) × ((List (Int)) × (Int)))) (v : Int) : Option ((Unit) ⊕ (Unit)) := iter (fun v => (S_im_isRising_0 k v).ev) v

noncomputable def DL_im_isRising_0 : LD where
  head := { acts := [], S := { slots := [0, 1, 7, 8, 9], sh := (.cons (.dat (.slice (.int .i64))) (.cons (.dat (.int .i64)) (.cons (.dat (.slice (.int .i64))) (.cons (.dat (.int .i64)) (.cons (.dat (.int .i64)) .nil))))), obs := [] } }
  exits := [(0, { acts := [], S := { slots := [], sh := .nil, obs := [] } })]
  rets := { acts := [], S := { slots := [4], sh := (.cons (.dat .bool) .nil), obs := [] } }
  K := (List (Int)) × ((Int) × ((List (Int)) × (Int)))
  V := Int
  R := (Unit) ⊕ (Unit)
  join := fun k v => ((k.1, (k.2.1, (k.2.2.1, (k.2.2.2, (v, ()))))), ())
  sk := fun t => (t.1.1, (t.1.2.1, (t.1.2.2.1, t.1.2.2.2.1)))
  sv := fun t => t.1.2.2.2.2.1
  step := S_im_isRising_0
  leaf := fun _ r => .s (Unit) (Unit) r (fun _ => .l (.exit 0 (mkSt ({ slots := [], sh := .nil, obs := [] }) ((), ())))) (fun _ => .l (.ret (mkSt ({ slots := [4], sh := (.cons (.dat .bool) .nil), obs := [] }) ((false, ()), ()))))

noncomputable def T_im_isRising (a1_ : List (Int)) (a2_ : Int) : Tr (Bool) :=
  .c ((Unit) ⊕ (Unit)) (L_im_isRising_0 (a1_, (a2_, (a1_, ((List.length a1_ : Nat) : Int)))) (0 : Int)) fun r8_ =>
  .s (Unit) (Unit) r8_
    (fun _ => .l true)
    (fun _ => .l false)

noncomputable def F_im_isRising (a1_ : List (Int)) (a2_ : Int) : Option (Bool) := (T_im_isRising a1_ a2_).ev

noncomputable def A_im_isRising : Sh := (.cons (.dat (.slice (.int .i64))) (.cons (.dat (.int .i64)) .nil))

noncomputable def I_im_isRising : List (Nat × OSh) := []

noncomputable def K_im_isRising : RetK := { acts := [], res := [.tmp 4], sh := (.cons (.dat .bool) .nil), obs := [], pins := [] }

noncomputable def D_im_isRising : FD where
  A := A_im_isRising
  ins := I_im_isRising
  lend := []
  R := Bool
  F := fun x => F_im_isRising x.1.1 x.1.2.1
  emb := fun r => ([.dat .bool r], [])

noncomputable def E_im_isRising : Env := envOf [(54, D_im_between)]

noncomputable def Z_im_isRising : Nat → Nat → List Nat := fun _ _ => []

noncomputable def O_im_isRising : List (Nat × LD) := [(0, DL_im_isRising_0)]

noncomputable def C_im_isRising : Code := (f97.body).getD .skip

/-! ### 74 loop.example/g01110/impl.IsAtlas -/

noncomputable def T_im_IsAtlas (a1_ : List (Int)) (a2_ : List (List (Int))) (a3_ : List (Int)) (a4_ : Int) : Tr (Bool) :=
  .c (Bool) (F_im_IsField a1_ a2_) fun r1_ =>
  .t r1_
    (.c (Bool) (F_im_isRising a3_ ((List.length a1_ : Nat) : Int)) fun r2_ =>
      .t r2_
        (.c (Bool) (F_im_between a4_ (0 : Int) (1000 : Int)) fun r3_ =>
          .l r3_)
        (.l false))
    (.l false)

noncomputable def F_im_IsAtlas (a1_ : List (Int)) (a2_ : List (List (Int))) (a3_ : List (Int)) (a4_ : Int) : Option (Bool) := (T_im_IsAtlas a1_ a2_ a3_ a4_).ev

noncomputable def A_im_IsAtlas : Sh := (.cons (.agg (.cons (.dat (.slice (.int .i64))) (.cons (.dat (.slice (.slice (.int .i64)))) (.cons (.dat (.slice (.int .i64))) (.cons (.dat (.int .i64)) .nil))))) .nil)

noncomputable def I_im_IsAtlas : List (Nat × OSh) := []

noncomputable def K_im_IsAtlas : RetK := { acts := [], res := [.tmp 2], sh := (.cons (.dat .bool) .nil), obs := [], pins := [] }

noncomputable def D_im_IsAtlas : FD where
  A := A_im_IsAtlas
  ins := I_im_IsAtlas
  lend := []
  R := Bool
  F := fun x => F_im_IsAtlas x.1.1.1 x.1.1.2.1 x.1.1.2.2.1 x.1.1.2.2.2.1
  emb := fun r => ([.dat .bool r], [])

noncomputable def E_im_IsAtlas : Env := envOf [(96, D_im_IsField), (97, D_im_isRising), (54, D_im_between)]

noncomputable def Z_im_IsAtlas : Nat → Nat → List Nat := fun _ _ => []

noncomputable def O_im_IsAtlas : List (Nat × LD) := []

noncomputable def C_im_IsAtlas : Code := (f74.body).getD .skip

/-! ### 49 loop.example/g01110/impl.IsValidConsole -/

noncomputable def T_im_IsValidConsole (a1_ : List (Int)) (a2_ : List (List (Int))) (a3_ : List (Int)) (a4_ : Int) (a5_ : List UInt8) (a6_ : List UInt8) (a7_ : Int) : Tr (Bool) :=
  .c (Bool) (F_im_IsAtlas a1_ a2_ a3_ a4_) fun r1_ =>
  .t r1_
    (.c (Bool) (F_im_IsValidLog a5_ a6_ a7_) fun r2_ =>
      .l r2_)
    (.l false)

noncomputable def F_im_IsValidConsole (a1_ : List (Int)) (a2_ : List (List (Int))) (a3_ : List (Int)) (a4_ : Int) (a5_ : List UInt8) (a6_ : List UInt8) (a7_ : Int) : Option (Bool) := (T_im_IsValidConsole a1_ a2_ a3_ a4_ a5_ a6_ a7_).ev

noncomputable def A_im_IsValidConsole : Sh := (.cons (.agg (.cons (.dat (.slice (.int .i64))) (.cons (.dat (.slice (.slice (.int .i64)))) (.cons (.dat (.slice (.int .i64))) (.cons (.dat (.int .i64)) (.cons (.dat .str) (.cons (.dat .str) (.cons (.dat (.int .i64)) .nil)))))))) .nil)

noncomputable def I_im_IsValidConsole : List (Nat × OSh) := []

noncomputable def K_im_IsValidConsole : RetK := { acts := [], res := [.tmp 2], sh := (.cons (.dat .bool) .nil), obs := [], pins := [] }

noncomputable def D_im_IsValidConsole : FD where
  A := A_im_IsValidConsole
  ins := I_im_IsValidConsole
  lend := []
  R := Bool
  F := fun x => F_im_IsValidConsole x.1.1.1 x.1.1.2.1 x.1.1.2.2.1 x.1.1.2.2.2.1 x.1.1.2.2.2.2.1 x.1.1.2.2.2.2.2.1 x.1.1.2.2.2.2.2.2.1
  emb := fun r => ([.dat .bool r], [])

noncomputable def E_im_IsValidConsole : Env := envOf [(74, D_im_IsAtlas), (23, D_im_IsValidLog)]

noncomputable def Z_im_IsValidConsole : Nat → Nat → List Nat := fun _ _ => []

noncomputable def O_im_IsValidConsole : List (Nat × LD) := []

noncomputable def C_im_IsValidConsole : Code := (f49.body).getD .skip

/-! ### 99 loop.example/g01110/laws.eqIntS -/

noncomputable def S_lw_eqIntS_0 (k : (List (Int)) × (List (Int))) (v : Int) : Tr ((Int) ⊕ ((Unit) ⊕ (Unit))) :=
  .t (decide (v < ((List.length k.1 : Nat) : Int)))
    (.g (inR v (List.length k.1)) <|
      .g (inR v (List.length k.2)) <|
      .t ((List.getD k.1 (Int.toNat v) (0 : Int)) != (List.getD k.2 (Int.toNat v) (0 : Int)))
        (.l (.inr (.inr ())))
        (.l (.inl (IntKind.wrap .i64 (v + (1 : Int))))))
    (.l (.inr (.inl ())))

noncomputable def L_lw_eqIntS_0 (k : (List (Int)) × (List (Int))) (v : Int) : Option ((Unit) ⊕ (Unit)) := iter (fun v => (S_lw_eqIntS_0 k v).ev) v

noncomputable def DL_lw_eqIntS_0 : LD where
  head := { acts := [], S := { slots := [0, 1, 5], sh := (.cons (.dat (.slice (.int .i64))) (.cons (.dat (.slice (.int .i64))) (.cons (.dat (.int .i64)) .nil))), obs := [] } }
  exits := [(0, { acts := [], S := { slots := [], sh := .nil, obs := [] } })]
  rets := { acts := [], S := { slots := [4], sh := (.cons (.dat .bool) .nil), obs := [] } }
  K := (List (Int)) × (List (Int))
  V := Int
  R := (Unit) ⊕ (Unit)
  join := fun k v => ((k.1, (k.2, (v, ()))), ())
  sk := fun t => (t.1.1, t.1.2.1)
  sv := fun t => t.1.2.2.1
  step := S_lw_eqIntS_0
  leaf := fun _ r => .s (Unit) (Unit) r (fun _ => .l (.exit 0 (mkSt ({ slots := [], sh := .nil, obs := [] }) ((), ())))) (fun _ => .l (.ret (mkSt ({ slots := [4], sh := (.cons (.dat .bool) .nil), obs := [] }) ((false, ()), ()))))

noncomputable def T_lw_eqIntS (a1_ : List (Int)) (a2_ : List (Int)) : Tr (Bool) :=
  .t (((List.length a1_ : Nat) : Int) != ((List.length a2_ : Nat) : Int))
    (.l false)
    (.c ((Unit) ⊕ (Unit)) (L_lw_eqIntS_0 (a1_, a2_) (0 : Int)) fun r5_ =>
      .s (Unit) (Unit) r5_
        (fun _ => .l true)
        (fun _ => .l false))

noncomputable def F_lw_eqIntS (a1_ : List (Int)) (a2_ : List (Int)) : Option (Bool) := (T_lw_eqIntS a1_ a2_).ev

noncomputable def A_lw_eqIntS : Sh := (.cons (.dat (.slice (.int .i64))) (.cons (.dat (.slice (.int .i64))) .nil))

noncomputable def I_lw_eqIntS : List (Nat × OSh) := []

noncomputable def K_lw_eqIntS : RetK := { acts := [], res := [.tmp 4], sh := (.cons (.dat .bool) .nil), obs := [], pins := [] }

noncomputable def D_lw_eqIntS : FD where
  A := A_lw_eqIntS
  ins := I_lw_eqIntS
  lend := []
  R := Bool
  F := fun x => F_lw_eqIntS x.1.1 x.1.2.1
  emb := fun r => ([.dat .bool r], [])

noncomputable def E_lw_eqIntS : Env := envOf []

noncomputable def Z_lw_eqIntS : Nat → Nat → List Nat := fun _ _ => []

noncomputable def O_lw_eqIntS : List (Nat × LD) := [(0, DL_lw_eqIntS_0)]

noncomputable def C_lw_eqIntS : Code := (f99.body).getD .skip

/-! ### 112 loop.example/g01110/laws.eqIntSS -/

noncomputable def S_lw_eqIntSS_0 (k : (List (List (Int))) × (List (List (Int)))) (v : Int) : Tr ((Int) ⊕ ((Unit) ⊕ (Unit))) :=
  .t (decide (v < ((List.length k.1 : Nat) : Int)))
    (.g (inR v (List.length k.1)) <|
      .g (inR v (List.length k.2)) <|
      .c (Bool) (F_lw_eqIntS (List.getD k.1 (Int.toNat v) ([] : List (Int))) (List.getD k.2 (Int.toNat v) ([] : List (Int)))) fun r4_ =>
      .t (!r4_)
        (.l (.inr (.inr ())))
        (.l (.inl (IntKind.wrap .i64 (v + (1 : Int))))))
    (.l (.inr (.inl ())))

noncomputable def L_lw_eqIntSS_0 (k : (List (List (Int))) × (List (List (Int)))) (v : Int) : Option ((Unit) ⊕ (Unit)) := iter (fun v => (S_lw_eqIntSS_0 k v).ev) v

noncomputable def DL_lw_eqIntSS_0 : LD where
  head := { acts := [], S := { slots := [0, 1, 5], sh := (.cons (.dat (.slice (.slice (.int .i64)))) (.cons (.dat (.slice (.slice (.int .i64)))) (.cons (.dat (.int .i64)) .nil))), obs := [] } }
  exits := [(0, { acts := [], S := { slots := [], sh := .nil, obs := [] } })]
  rets := { acts := [], S := { slots := [4], sh := (.cons (.dat .bool) .nil), obs := [] } }
  K := (List (List (Int))) × (List (List (Int)))
  V := Int
  R := (Unit) ⊕ (Unit)
  join := fun k v => ((k.1, (k.2, (v, ()))), ())
  sk := fun t => (t.1.1, t.1.2.1)
  sv := fun t => t.1.2.2.1
  step := S_lw_eqIntSS_0
  leaf := fun _ r => .s (Unit) (Unit) r (fun _ => .l (.exit 0 (mkSt ({ slots := [], sh := .nil, obs := [] }) ((), ())))) (fun _ => .l (.ret (mkSt ({ slots := [4], sh := (.cons (.dat .bool) .nil), obs := [] }) ((false, ()), ()))))

noncomputable def T_lw_eqIntSS (a1_ : List (List (Int))) (a2_ : List (List (Int))) : Tr (Bool) :=
  .t (((List.length a1_ : Nat) : Int) != ((List.length a2_ : Nat) : Int))
    (.l false)
    (.c ((Unit) ⊕ (Unit)) (L_lw_eqIntSS_0 (a1_, a2_) (0 : Int)) fun r6_ =>
      .s (Unit) (Unit) r6_
        (fun _ => .l true)
        (fun _ => .l false))

noncomputable def F_lw_eqIntSS (a1_ : List (List (Int))) (a2_ : List (List (Int))) : Option (Bool) := (T_lw_eqIntSS a1_ a2_).ev

noncomputable def A_lw_eqIntSS : Sh := (.cons (.dat (.slice (.slice (.int .i64)))) (.cons (.dat (.slice (.slice (.int .i64)))) .nil))

noncomputable def I_lw_eqIntSS : List (Nat × OSh) := []

noncomputable def K_lw_eqIntSS : RetK := { acts := [], res := [.tmp 4], sh := (.cons (.dat .bool) .nil), obs := [], pins := [] }

noncomputable def D_lw_eqIntSS : FD where
  A := A_lw_eqIntSS
  ins := I_lw_eqIntSS
  lend := []
  R := Bool
  F := fun x => F_lw_eqIntSS x.1.1 x.1.2.1
  emb := fun r => ([.dat .bool r], [])

noncomputable def E_lw_eqIntSS : Env := envOf [(99, D_lw_eqIntS)]

noncomputable def Z_lw_eqIntSS : Nat → Nat → List Nat := fun _ _ => []

noncomputable def O_lw_eqIntSS : List (Nat × LD) := [(0, DL_lw_eqIntSS_0)]

noncomputable def C_lw_eqIntSS : Code := (f112.body).getD .skip

/-! ### 98 loop.example/g01110/laws.eqField -/

noncomputable def T_lw_eqField (a1_ : List (Int)) (a2_ : List (List (Int))) (a3_ : List (Int)) (a4_ : List (List (Int))) : Tr (Bool) :=
  .c (Bool) (F_lw_eqIntS a1_ a3_) fun r1_ =>
  .t (!r1_)
    (.l false)
    (.c (Bool) (F_lw_eqIntSS a2_ a4_) fun r2_ =>
      .t (!r2_)
        (.l false)
        (.l true))

noncomputable def F_lw_eqField (a1_ : List (Int)) (a2_ : List (List (Int))) (a3_ : List (Int)) (a4_ : List (List (Int))) : Option (Bool) := (T_lw_eqField a1_ a2_ a3_ a4_).ev

noncomputable def A_lw_eqField : Sh := (.cons (.agg (.cons (.dat (.slice (.int .i64))) (.cons (.dat (.slice (.slice (.int .i64)))) .nil))) (.cons (.agg (.cons (.dat (.slice (.int .i64))) (.cons (.dat (.slice (.slice (.int .i64)))) .nil))) .nil))

noncomputable def I_lw_eqField : List (Nat × OSh) := []

noncomputable def K_lw_eqField : RetK := { acts := [], res := [.tmp 4], sh := (.cons (.dat .bool) .nil), obs := [], pins := [] }

noncomputable def D_lw_eqField : FD where
  A := A_lw_eqField
  ins := I_lw_eqField
  lend := []
  R := Bool
  F := fun x => F_lw_eqField x.1.1.1 x.1.1.2.1 x.1.2.1.1 x.1.2.1.2.1
  emb := fun r => ([.dat .bool r], [])

noncomputable def E_lw_eqField : Env := envOf [(99, D_lw_eqIntS), (112, D_lw_eqIntSS)]

noncomputable def Z_lw_eqField : Nat → Nat → List Nat := fun _ _ => []

noncomputable def O_lw_eqField : List (Nat × LD) := []

noncomputable def C_lw_eqField : Code := (f98.body).getD .skip

/-! ### 75 loop.example/g01110/laws.eqAtlas -/

noncomputable def T_lw_eqAtlas (a1_ : List (Int)) (a2_ : List (List (Int))) (a3_ : List (Int)) (a4_ : Int) (a5_ : List (Int)) (a6_ : List (List (Int))) (a7_ : List (Int)) (a8_ : Int) : Tr (Bool) :=
  .c (Bool) (F_lw_eqField a1_ a2_ a5_ a6_) fun r1_ =>
  .t (!r1_)
    (.l false)
    (.c (Bool) (F_lw_eqIntS a3_ a7_) fun r2_ =>
      .t (!r2_)
        (.l false)
        (.t (a4_ != a8_)
            (.l false)
            (.l true)))

noncomputable def F_lw_eqAtlas (a1_ : List (Int)) (a2_ : List (List (Int))) (a3_ : List (Int)) (a4_ : Int) (a5_ : List (Int)) (a6_ : List (List (Int))) (a7_ : List (Int)) (a8_ : Int) : Option (Bool) := (T_lw_eqAtlas a1_ a2_ a3_ a4_ a5_ a6_ a7_ a8_).ev

noncomputable def A_lw_eqAtlas : Sh := (.cons (.agg (.cons (.dat (.slice (.int .i64))) (.cons (.dat (.slice (.slice (.int .i64)))) (.cons (.dat (.slice (.int .i64))) (.cons (.dat (.int .i64)) .nil))))) (.cons (.agg (.cons (.dat (.slice (.int .i64))) (.cons (.dat (.slice (.slice (.int .i64)))) (.cons (.dat (.slice (.int .i64))) (.cons (.dat (.int .i64)) .nil))))) .nil))

noncomputable def I_lw_eqAtlas : List (Nat × OSh) := []

noncomputable def K_lw_eqAtlas : RetK := { acts := [], res := [.tmp 4], sh := (.cons (.dat .bool) .nil), obs := [], pins := [] }

noncomputable def D_lw_eqAtlas : FD where
  A := A_lw_eqAtlas
  ins := I_lw_eqAtlas
  lend := []
  R := Bool
  F := fun x => F_lw_eqAtlas x.1.1.1 x.1.1.2.1 x.1.1.2.2.1 x.1.1.2.2.2.1 x.1.2.1.1 x.1.2.1.2.1 x.1.2.1.2.2.1 x.1.2.1.2.2.2.1
  emb := fun r => ([.dat .bool r], [])

noncomputable def E_lw_eqAtlas : Env := envOf [(98, D_lw_eqField), (99, D_lw_eqIntS)]

noncomputable def Z_lw_eqAtlas : Nat → Nat → List Nat := fun _ _ => []

noncomputable def O_lw_eqAtlas : List (Nat × LD) := []

noncomputable def C_lw_eqAtlas : Code := (f75.body).getD .skip

/-! ### 50 loop.example/g01110/laws.eqConsole -/

noncomputable def T_lw_eqConsole (a1_ : List (Int)) (a2_ : List (List (Int))) (a3_ : List (Int)) (a4_ : Int) (a5_ : List UInt8) (a6_ : List UInt8) (a7_ : Int) (a8_ : List (Int)) (a9_ : List (List (Int))) (a10_ : List (Int)) (a11_ : Int) (a12_ : List UInt8) (a13_ : List UInt8) (a14_ : Int) : Tr (Bool) :=
  .c (Bool) (F_lw_eqAtlas a1_ a2_ a3_ a4_ a8_ a9_ a10_ a11_) fun r1_ =>
  .t (!r1_)
    (.l false)
    (.c (Bool) (F_lw_eqLog a5_ a6_ a7_ a12_ a13_ a14_) fun r2_ =>
      .t (!r2_)
        (.l false)
        (.l true))

noncomputable def F_lw_eqConsole (a1_ : List (Int)) (a2_ : List (List (Int))) (a3_ : List (Int)) (a4_ : Int) (a5_ : List UInt8) (a6_ : List UInt8) (a7_ : Int) (a8_ : List (Int)) (a9_ : List (List (Int))) (a10_ : List (Int)) (a11_ : Int) (a12_ : List UInt8) (a13_ : List UInt8) (a14_ : Int) : Option (Bool) := (T_lw_eqConsole a1_ a2_ a3_ a4_ a5_ a6_ a7_ a8_ a9_ a10_ a11_ a12_ a13_ a14_).ev

noncomputable def A_lw_eqConsole : Sh := (.cons (.agg (.cons (.dat (.slice (.int .i64))) (.cons (.dat (.slice (.slice (.int .i64)))) (.cons (.dat (.slice (.int .i64))) (.cons (.dat (.int .i64)) (.cons (.dat .str) (.cons (.dat .str) (.cons (.dat (.int .i64)) .nil)))))))) (.cons (.agg (.cons (.dat (.slice (.int .i64))) (.cons (.dat (.slice (.slice (.int .i64)))) (.cons (.dat (.slice (.int .i64))) (.cons (.dat (.int .i64)) (.cons (.dat .str) (.cons (.dat .str) (.cons (.dat (.int .i64)) .nil)))))))) .nil))

noncomputable def I_lw_eqConsole : List (Nat × OSh) := []

noncomputable def K_lw_eqConsole : RetK := { acts := [], res := [.tmp 4], sh := (.cons (.dat .bool) .nil), obs := [], pins := [] }

noncomputable def D_lw_eqConsole : FD where
  A := A_lw_eqConsole
  ins := I_lw_eqConsole
  lend := []
  R := Bool
  F := fun x => F_lw_eqConsole x.1.1.1 x.1.1.2.1 x.1.1.2.2.1 x.1.1.2.2.2.1 x.1.1.2.2.2.2.1 x.1.1.2.2.2.2.2.1 x.1.1.2.2.2.2.2.2.1 x.1.2.1.1 x.1.2.1.2.1 x.1.2.1.2.2.1 x.1.2.1.2.2.2.1 x.1.2.1.2.2.2.2.1 x.1.2.1.2.2.2.2.2.1 x.1.2.1.2.2.2.2.2.2.1
  emb := fun r => ([.dat .bool r], [])

noncomputable def E_lw_eqConsole : Env := envOf [(75, D_lw_eqAtlas), (19, D_lw_eqLog)]

noncomputable def Z_lw_eqConsole : Nat → Nat → List Nat := fun _ _ => []

noncomputable def O_lw_eqConsole : List (Nat × LD) := []

noncomputable def C_lw_eqConsole : Code := (f50.body).getD .skip

/-! ### 12 loop.example/g01110/laws.FnExactIsValidConsole -/

noncomputable def T_lw_FnExactIsValidConsole (a1_ : List (Int)) (a2_ : List (List (Int))) (a3_ : List (Int)) (a4_ : Int) (a5_ : List UInt8) (a6_ : List UInt8) (a7_ : Int) : Tr (Bool) :=
  .c (Int) (F_lw_szConsole a1_ a2_ a3_ a4_ a5_ a6_ a7_ (1048576 : Int)) fun r1_ =>
  .t (decide (r1_ < (0 : Int)))
    (.l true)
    (.c ((List (Int)) × ((List (List (Int))) × ((List (Int)) × ((Int) × ((List UInt8) × ((List UInt8) × (Int))))))) (F_lw_toConsole a1_ a2_ a3_ a4_ a5_ a6_ a7_) fun r2_ =>
      .c (Bool) (F_sp_IsValidConsole r2_.1 r2_.2.1 r2_.2.2.1 r2_.2.2.2.1 r2_.2.2.2.2.1 r2_.2.2.2.2.2.1 r2_.2.2.2.2.2.2) fun r3_ =>
      .c ((List (Int)) × ((List (List (Int))) × ((List (Int)) × ((Int) × ((List UInt8) × ((List UInt8) × (Int))))))) (F_lw_toConsole a1_ a2_ a3_ a4_ a5_ a6_ a7_) fun r4_ =>
      .c (Bool) (F_im_IsValidConsole r4_.1 r4_.2.1 r4_.2.2.1 r4_.2.2.2.1 r4_.2.2.2.2.1 r4_.2.2.2.2.2.1 r4_.2.2.2.2.2.2) fun r5_ =>
      .t (!(r5_ == r3_))
        (.l false)
        (.c ((List (Int)) × ((List (List (Int))) × ((List (Int)) × ((Int) × ((List UInt8) × ((List UInt8) × (Int))))))) (F_lw_toConsole a1_ a2_ a3_ a4_ a5_ a6_ a7_) fun r6_ =>
          .c (Bool) (F_lw_eqConsole r4_.1 r4_.2.1 r4_.2.2.1 r4_.2.2.2.1 r4_.2.2.2.2.1 r4_.2.2.2.2.2.1 r4_.2.2.2.2.2.2 r6_.1 r6_.2.1 r6_.2.2.1 r6_.2.2.2.1 r6_.2.2.2.2.1 r6_.2.2.2.2.2.1 r6_.2.2.2.2.2.2) fun r7_ =>
          .t (!r7_)
            (.l false)
            (.l true)))

noncomputable def F_lw_FnExactIsValidConsole (a1_ : List (Int)) (a2_ : List (List (Int))) (a3_ : List (Int)) (a4_ : Int) (a5_ : List UInt8) (a6_ : List UInt8) (a7_ : Int) : Option (Bool) := (T_lw_FnExactIsValidConsole a1_ a2_ a3_ a4_ a5_ a6_ a7_).ev

noncomputable def A_lw_FnExactIsValidConsole : Sh := (.cons (.agg (.cons (.dat (.slice (.int .i64))) (.cons (.dat (.slice (.slice (.int .i64)))) (.cons (.dat (.slice (.int .i64))) (.cons (.dat (.int .i64)) (.cons (.dat .str) (.cons (.dat .str) (.cons (.dat (.int .i64)) .nil)))))))) .nil)

noncomputable def I_lw_FnExactIsValidConsole : List (Nat × OSh) := []

noncomputable def K_lw_FnExactIsValidConsole : RetK := { acts := [], res := [.tmp 2], sh := (.cons (.dat .bool) .nil), obs := [], pins := [] }

noncomputable def D_lw_FnExactIsValidConsole : FD where
  A := A_lw_FnExactIsValidConsole
  ins := I_lw_FnExactIsValidConsole
  lend := []
  R := Bool
  F := fun x => F_lw_FnExactIsValidConsole x.1.1.1 x.1.1.2.1 x.1.1.2.2.1 x.1.1.2.2.2.1 x.1.1.2.2.2.2.1 x.1.1.2.2.2.2.2.1 x.1.1.2.2.2.2.2.2.1
  emb := fun r => ([.dat .bool r], [])

noncomputable def E_lw_FnExactIsValidConsole : Env := envOf [(46, D_lw_szConsole), (48, D_lw_toConsole), (47, D_sp_IsValidConsole), (49, D_im_IsValidConsole), (50, D_lw_eqConsole)]

noncomputable def Z_lw_FnExactIsValidConsole : Nat → Nat → List Nat := fun _ _ => []

noncomputable def O_lw_FnExactIsValidConsole : List (Nat × LD) := []

noncomputable def C_lw_FnExactIsValidConsole : Code := (f12.body).getD .skip
end Go.Proofs.YtakbhfnndcnopaaDoor
