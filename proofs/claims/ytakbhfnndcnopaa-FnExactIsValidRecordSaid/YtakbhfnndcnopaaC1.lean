import Derived.Test.YtakbhfnndcnopaaB31
import Derived.Test.YtakbhfnndcnopaaProg
namespace Go.Proofs.Ytakbhfnndcnopaa
open Go.Proofs.Try

noncomputable def tabl : List (Nat × TD) := [(3, .sc (.int .i64)), (4, .sc .bool), (5, .sc (.int .u8)), (9, .sc .str), (23, .st (.pair .str .str) [(9, .str), (9, .str)]), (26, .st (.pair .str .str) [(9, .str), (9, .str)])]

noncomputable def tt : Nat → TD := fun i => match look tabl i with
  | some d => d
  | none => .no

/-! ### 5 loop.example/g01110/laws.szLogRecord -/

noncomputable def T_lw_szLogRecord (a1_ : List UInt8) (a2_ : List UInt8) (a3_ : Int) : Tr (Int) :=
  .t (decide ((IntKind.wrap .i64 (a3_ - ((List.length a1_ : Nat) : Int))) < (0 : Int)))
    (.l (-1 : Int))
    (.t (decide ((IntKind.wrap .i64 ((IntKind.wrap .i64 (a3_ - ((List.length a1_ : Nat) : Int))) - ((List.length a2_ : Nat) : Int))) < (0 : Int)))
        (.l (-1 : Int))
        (.l (IntKind.wrap .i64 ((IntKind.wrap .i64 (a3_ - ((List.length a1_ : Nat) : Int))) - ((List.length a2_ : Nat) : Int)))))

noncomputable def F_lw_szLogRecord (a1_ : List UInt8) (a2_ : List UInt8) (a3_ : Int) : Option (Int) := (T_lw_szLogRecord a1_ a2_ a3_).ev

noncomputable def A_lw_szLogRecord : Sh := (.cons (.agg (.cons (.dat .str) (.cons (.dat .str) .nil))) (.cons (.dat (.int .i64)) .nil))

noncomputable def I_lw_szLogRecord : List (Nat × OSh) := []

noncomputable def K_lw_szLogRecord : RetK := { acts := [], res := [.tmp 4], sh := (.cons (.dat (.int .i64)) .nil), obs := [], pins := [] }

noncomputable def D_lw_szLogRecord : FD where
  A := A_lw_szLogRecord
  ins := I_lw_szLogRecord
  lend := []
  R := Int
  F := fun x => F_lw_szLogRecord x.1.1.1 x.1.1.2.1 x.1.2.1
  emb := fun r => ([.dat (.int .i64) r], [])

noncomputable def E_lw_szLogRecord : Env := envOf []

noncomputable def Z_lw_szLogRecord : Nat → Nat → List Nat := fun _ _ => []

noncomputable def O_lw_szLogRecord : List (Nat × LD) := []

noncomputable def C_lw_szLogRecord : Code := (f5.body).getD .skip

/-! ### 7 loop.example/g01110/laws.toLogRecord -/

noncomputable def T_lw_toLogRecord (a1_ : List UInt8) (a2_ : List UInt8) : Tr ((List UInt8) × (List UInt8)) :=
  .l (a1_, a2_)

noncomputable def F_lw_toLogRecord (a1_ : List UInt8) (a2_ : List UInt8) : Option ((List UInt8) × (List UInt8)) := (T_lw_toLogRecord a1_ a2_).ev

noncomputable def A_lw_toLogRecord : Sh := (.cons (.agg (.cons (.dat .str) (.cons (.dat .str) .nil))) .nil)

noncomputable def I_lw_toLogRecord : List (Nat × OSh) := []

noncomputable def K_lw_toLogRecord : RetK := { acts := [], res := [.cell 2 26], sh := (.cons (.agg (.cons (.dat .str) (.cons (.dat .str) .nil))) .nil), obs := [], pins := [] }

noncomputable def D_lw_toLogRecord : FD where
  A := A_lw_toLogRecord
  ins := I_lw_toLogRecord
  lend := []
  R := (List UInt8) × (List UInt8)
  F := fun x => F_lw_toLogRecord x.1.1.1 x.1.1.2.1
  emb := fun r => ([.agg [.dat .str r.1, .dat .str r.2]], [])

noncomputable def E_lw_toLogRecord : Env := envOf []

noncomputable def Z_lw_toLogRecord : Nat → Nat → List Nat := fun _ _ => []

noncomputable def O_lw_toLogRecord : List (Nat × LD) := []

noncomputable def C_lw_toLogRecord : Code := (f7.body).getD .skip

/-! ### 46 loop.example/g01110/spec.l1In -/

noncomputable def T_sp_l1In (a1_ : Int) (a2_ : Int) (a3_ : Int) : Tr (Bool) :=
  .t (decide (a2_ ≤ a1_))
    (.l (decide (a1_ ≤ a3_)))
    (.l false)

noncomputable def F_sp_l1In (a1_ : Int) (a2_ : Int) (a3_ : Int) : Option (Bool) := (T_sp_l1In a1_ a2_ a3_).ev

noncomputable def A_sp_l1In : Sh := (.cons (.dat (.int .i64)) (.cons (.dat (.int .i64)) (.cons (.dat (.int .i64)) .nil)))

noncomputable def I_sp_l1In : List (Nat × OSh) := []

noncomputable def K_sp_l1In : RetK := { acts := [], res := [.tmp 6], sh := (.cons (.dat .bool) .nil), obs := [], pins := [] }

noncomputable def D_sp_l1In : FD where
  A := A_sp_l1In
  ins := I_sp_l1In
  lend := []
  R := Bool
  F := fun x => F_sp_l1In x.1.1 x.1.2.1 x.1.2.2.1
  emb := fun r => ([.dat .bool r], [])

noncomputable def E_sp_l1In : Env := envOf []

noncomputable def Z_sp_l1In : Nat → Nat → List Nat := fun _ _ => []

noncomputable def O_sp_l1In : List (Nat × LD) := []

noncomputable def C_sp_l1In : Code := (f46.body).getD .skip

/-! ### 35 loop.example/g01110/spec.l12Bytes -/

noncomputable def S_sp_l12Bytes_0 (k : (List UInt8) × (Int)) (v : Int) : Tr ((Int) ⊕ ((Unit) ⊕ (Unit))) :=
  .t (decide (v < ((List.length k.1 : Nat) : Int)))
    (.g (inR v (List.length k.1)) <|
      .c (Bool) (F_sp_l1In (IntKind.wrap .i64 ((UInt8.toNat (List.getD k.1 (Int.toNat v) 0) : Nat) : Int)) (32 : Int) (126 : Int)) fun r4_ =>
      .t (!r4_)
        (.l (.inr (.inr ())))
        (.g (inR v (List.length k.1)) <|
          .t (((UInt8.toNat (List.getD k.1 (Int.toNat v) 0) : Nat) : Int) == (35 : Int))
            (.l (.inr (.inr ())))
            (.l (.inl (IntKind.wrap .i64 (v + (1 : Int)))))))
    (.l (.inr (.inl ())))

noncomputable def L_sp_l12Bytes_0 (k : (List UInt8) × (Int)) (v : Int) : Option ((Unit) ⊕ (Unit)) := iter (fun v => (S_sp_l12Bytes_0 k v).ev) v

noncomputable def DL_sp_l12Bytes_0 : LD where
  head := { acts := [], S := { slots := [0, 1, 5], sh := (.cons (.dat .str) (.cons (.dat (.int .i64)) (.cons (.dat (.int .i64)) .nil))), obs := [] } }
  exits := [(0, { acts := [], S := { slots := [0, 1], sh := (.cons (.dat .str) (.cons (.dat (.int .i64)) .nil)), obs := [] } })]
  rets := { acts := [], S := { slots := [4], sh := (.cons (.dat .bool) .nil), obs := [] } }
  K := (List UInt8) × (Int)
  V := Int
  R := (Unit) ⊕ (Unit)
  join := fun k v => ((k.1, (k.2, (v, ()))), ())
  sk := fun t => (t.1.1, t.1.2.1)
  sv := fun t => t.1.2.2.1
  step := S_sp_l12Bytes_0
  leaf := fun k r => .s (Unit) (Unit) r (fun _ => .l (.exit 0 (mkSt ({ slots := [0, 1], sh := (.cons (.dat .str) (.cons (.dat (.int .i64)) .nil)), obs := [] }) ((k.1, (k.2, ())), ())))) (fun _ => .l (.ret (mkSt ({ slots := [4], sh := (.cons (.dat .bool) .nil), obs := [] }) ((false, ()), ()))))

noncomputable def T_sp_l12Bytes (a1_ : List UInt8) (a2_ : Int) : Tr (Bool) :=
  .c ((Unit) ⊕ (Unit)) (L_sp_l12Bytes_0 (a1_, a2_) (0 : Int)) fun r8_ =>
  .s (Unit) (Unit) r8_
    (fun _ => .l (decide (((List.length a1_ : Nat) : Int) ≤ a2_)))
    (fun _ => .l false)

noncomputable def F_sp_l12Bytes (a1_ : List UInt8) (a2_ : Int) : Option (Bool) := (T_sp_l12Bytes a1_ a2_).ev

noncomputable def A_sp_l12Bytes : Sh := (.cons (.dat .str) (.cons (.dat (.int .i64)) .nil))

noncomputable def I_sp_l12Bytes : List (Nat × OSh) := []

noncomputable def K_sp_l12Bytes : RetK := { acts := [], res := [.tmp 4], sh := (.cons (.dat .bool) .nil), obs := [], pins := [] }

noncomputable def D_sp_l12Bytes : FD where
  A := A_sp_l12Bytes
  ins := I_sp_l12Bytes
  lend := []
  R := Bool
  F := fun x => F_sp_l12Bytes x.1.1 x.1.2.1
  emb := fun r => ([.dat .bool r], [])

noncomputable def E_sp_l12Bytes : Env := envOf [(46, D_sp_l1In)]

noncomputable def Z_sp_l12Bytes : Nat → Nat → List Nat := fun _ _ => []

noncomputable def O_sp_l12Bytes : List (Nat × LD) := [(0, DL_sp_l12Bytes_0)]

noncomputable def C_sp_l12Bytes : Code := (f35.body).getD .skip

/-! ### 36 loop.example/g01110/spec.l1Stands -/

noncomputable def S_sp_l1Stands_0 (k : (List UInt8) × (Int)) (v : Int) : Tr ((Int) ⊕ ((Unit) ⊕ (Unit))) :=
  .t (decide (v < ((List.length k.1 : Nat) : Int)))
    (.g (inR v (List.length k.1)) <|
      .t (((UInt8.toNat (List.getD k.1 (Int.toNat v) 0) : Nat) : Int) == k.2)
        (.l (.inr (.inr ())))
        (.l (.inl (IntKind.wrap .i64 (v + (1 : Int))))))
    (.l (.inr (.inl ())))

noncomputable def L_sp_l1Stands_0 (k : (List UInt8) × (Int)) (v : Int) : Option ((Unit) ⊕ (Unit)) := iter (fun v => (S_sp_l1Stands_0 k v).ev) v

noncomputable def DL_sp_l1Stands_0 : LD where
  head := { acts := [], S := { slots := [0, 1, 5], sh := (.cons (.dat .str) (.cons (.dat (.int .u8)) (.cons (.dat (.int .i64)) .nil))), obs := [] } }
  exits := [(0, { acts := [], S := { slots := [], sh := .nil, obs := [] } })]
  rets := { acts := [], S := { slots := [4], sh := (.cons (.dat .bool) .nil), obs := [] } }
  K := (List UInt8) × (Int)
  V := Int
  R := (Unit) ⊕ (Unit)
  join := fun k v => ((k.1, (k.2, (v, ()))), ())
  sk := fun t => (t.1.1, t.1.2.1)
  sv := fun t => t.1.2.2.1
  step := S_sp_l1Stands_0
  leaf := fun _ r => .s (Unit) (Unit) r (fun _ => .l (.exit 0 (mkSt ({ slots := [], sh := .nil, obs := [] }) ((), ())))) (fun _ => .l (.ret (mkSt ({ slots := [4], sh := (.cons (.dat .bool) .nil), obs := [] }) ((true, ()), ()))))

noncomputable def T_sp_l1Stands (a1_ : List UInt8) (a2_ : Int) : Tr (Bool) :=
  .c ((Unit) ⊕ (Unit)) (L_sp_l1Stands_0 (a1_, a2_) (0 : Int)) fun r5_ =>
  .s (Unit) (Unit) r5_
    (fun _ => .l false)
    (fun _ => .l true)

noncomputable def F_sp_l1Stands (a1_ : List UInt8) (a2_ : Int) : Option (Bool) := (T_sp_l1Stands a1_ a2_).ev

noncomputable def A_sp_l1Stands : Sh := (.cons (.dat .str) (.cons (.dat (.int .u8)) .nil))

noncomputable def I_sp_l1Stands : List (Nat × OSh) := []

noncomputable def K_sp_l1Stands : RetK := { acts := [], res := [.tmp 4], sh := (.cons (.dat .bool) .nil), obs := [], pins := [] }

noncomputable def D_sp_l1Stands : FD where
  A := A_sp_l1Stands
  ins := I_sp_l1Stands
  lend := []
  R := Bool
  F := fun x => F_sp_l1Stands x.1.1 x.1.2.1
  emb := fun r => ([.dat .bool r], [])

noncomputable def E_sp_l1Stands : Env := envOf []

noncomputable def Z_sp_l1Stands : Nat → Nat → List Nat := fun _ _ => []

noncomputable def O_sp_l1Stands : List (Nat × LD) := [(0, DL_sp_l1Stands_0)]

noncomputable def C_sp_l1Stands : Code := (f36.body).getD .skip

/-! ### 18 loop.example/g01110/spec.l12Record -/

noncomputable def T_sp_l12Record (a1_ : List UInt8) (a2_ : List UInt8) : Tr (Bool) :=
  .t (!(a1_ == ([] : List UInt8)))
    (.c (Bool) (F_sp_l12Bytes a1_ (160 : Int)) fun r1_ =>
      .t r1_
        (.c (Bool) (F_sp_l1Stands a1_ (64 : Int)) fun r2_ =>
          .t (!r2_)
            (.c (Bool) (F_sp_l12Bytes a2_ (200 : Int)) fun r3_ =>
              .l r3_)
            (.l false))
        (.l false))
    (.l false)

noncomputable def F_sp_l12Record (a1_ : List UInt8) (a2_ : List UInt8) : Option (Bool) := (T_sp_l12Record a1_ a2_).ev

noncomputable def A_sp_l12Record : Sh := (.cons (.agg (.cons (.dat .str) (.cons (.dat .str) .nil))) .nil)

noncomputable def I_sp_l12Record : List (Nat × OSh) := []

noncomputable def K_sp_l12Record : RetK := { acts := [], res := [.tmp 2], sh := (.cons (.dat .bool) .nil), obs := [], pins := [] }

noncomputable def D_sp_l12Record : FD where
  A := A_sp_l12Record
  ins := I_sp_l12Record
  lend := []
  R := Bool
  F := fun x => F_sp_l12Record x.1.1.1 x.1.1.2.1
  emb := fun r => ([.dat .bool r], [])

noncomputable def E_sp_l12Record : Env := envOf [(35, D_sp_l12Bytes), (36, D_sp_l1Stands)]

noncomputable def Z_sp_l12Record : Nat → Nat → List Nat := fun _ _ => []

noncomputable def O_sp_l12Record : List (Nat × LD) := []

noncomputable def C_sp_l12Record : Code := (f18.body).getD .skip

/-! ### 6 loop.example/g01110/spec.IsValidRecord -/

noncomputable def T_sp_IsValidRecord (a1_ : List UInt8) (a2_ : List UInt8) : Tr (Bool) :=
  .c (Bool) (F_sp_l12Record a1_ a2_) fun r1_ =>
  .l r1_

noncomputable def F_sp_IsValidRecord (a1_ : List UInt8) (a2_ : List UInt8) : Option (Bool) := (T_sp_IsValidRecord a1_ a2_).ev

noncomputable def A_sp_IsValidRecord : Sh := (.cons (.agg (.cons (.dat .str) (.cons (.dat .str) .nil))) .nil)

noncomputable def I_sp_IsValidRecord : List (Nat × OSh) := []

noncomputable def K_sp_IsValidRecord : RetK := { acts := [], res := [.tmp 2], sh := (.cons (.dat .bool) .nil), obs := [], pins := [] }

noncomputable def D_sp_IsValidRecord : FD where
  A := A_sp_IsValidRecord
  ins := I_sp_IsValidRecord
  lend := []
  R := Bool
  F := fun x => F_sp_IsValidRecord x.1.1.1 x.1.1.2.1
  emb := fun r => ([.dat .bool r], [])

noncomputable def E_sp_IsValidRecord : Env := envOf [(18, D_sp_l12Record)]

noncomputable def Z_sp_IsValidRecord : Nat → Nat → List Nat := fun _ _ => []

noncomputable def O_sp_IsValidRecord : List (Nat × LD) := []

noncomputable def C_sp_IsValidRecord : Code := (f6.body).getD .skip

/-! ### 19 loop.example/g01110/impl.isPlain -/

noncomputable def S_im_isPlain_0 (k : (List UInt8) × ((Int) × (Int))) (v : Int) : Tr ((Int) ⊕ ((Unit) ⊕ (Unit))) :=
  .t (decide (v < k.2.2))
    (.g (inR v (List.length k.1)) <|
      .t (decide (((UInt8.toNat (List.getD k.1 (Int.toNat v) 0) : Nat) : Int) < (32 : Int)))
        (.l (.inr (.inr ())))
        (.g (inR v (List.length k.1)) <|
          .t (decide ((126 : Int) < ((UInt8.toNat (List.getD k.1 (Int.toNat v) 0) : Nat) : Int)))
            (.l (.inr (.inr ())))
            (.g (inR v (List.length k.1)) <|
              .t (((UInt8.toNat (List.getD k.1 (Int.toNat v) 0) : Nat) : Int) == (35 : Int))
                (.l (.inr (.inr ())))
                (.l (.inl (IntKind.wrap .i64 (v + (1 : Int))))))))
    (.l (.inr (.inl ())))

noncomputable def L_im_isPlain_0 (k : (List UInt8) × ((Int) × (Int))) (v : Int) : Option ((Unit) ⊕ (Unit)) := iter (fun v => (S_im_isPlain_0 k v).ev) v

noncomputable def DL_im_isPlain_0 : LD where
  head := { acts := [], S := { slots := [0, 1, 7, 8], sh := (.cons (.dat .str) (.cons (.dat (.int .i64)) (.cons (.dat (.int .i64)) (.cons (.dat (.int .i64)) .nil)))), obs := [] } }
  exits := [(0, { acts := [], S := { slots := [0, 1], sh := (.cons (.dat .str) (.cons (.dat (.int .i64)) .nil)), obs := [] } })]
  rets := { acts := [], S := { slots := [4], sh := (.cons (.dat .bool) .nil), obs := [] } }
  K := (List UInt8) × ((Int) × (Int))
  V := Int
  R := (Unit) ⊕ (Unit)
  join := fun k v => ((k.1, (k.2.1, (k.2.2, (v, ())))), ())
  sk := fun t => (t.1.1, (t.1.2.1, t.1.2.2.1))
  sv := fun t => t.1.2.2.2.1
  step := S_im_isPlain_0
  leaf := fun k r => .s (Unit) (Unit) r (fun _ => .l (.exit 0 (mkSt ({ slots := [0, 1], sh := (.cons (.dat .str) (.cons (.dat (.int .i64)) .nil)), obs := [] }) ((k.1, (k.2.1, ())), ())))) (fun _ => .l (.ret (mkSt ({ slots := [4], sh := (.cons (.dat .bool) .nil), obs := [] }) ((false, ()), ()))))

noncomputable def T_im_isPlain (a1_ : List UInt8) (a2_ : Int) : Tr (Bool) :=
  .c ((Unit) ⊕ (Unit)) (L_im_isPlain_0 (a1_, (a2_, ((List.length a1_ : Nat) : Int))) (0 : Int)) fun r8_ =>
  .s (Unit) (Unit) r8_
    (fun _ => .l (decide (((List.length a1_ : Nat) : Int) ≤ a2_)))
    (fun _ => .l false)

noncomputable def F_im_isPlain (a1_ : List UInt8) (a2_ : Int) : Option (Bool) := (T_im_isPlain a1_ a2_).ev

noncomputable def A_im_isPlain : Sh := (.cons (.dat .str) (.cons (.dat (.int .i64)) .nil))

noncomputable def I_im_isPlain : List (Nat × OSh) := []

noncomputable def K_im_isPlain : RetK := { acts := [], res := [.tmp 4], sh := (.cons (.dat .bool) .nil), obs := [], pins := [] }

noncomputable def D_im_isPlain : FD where
  A := A_im_isPlain
  ins := I_im_isPlain
  lend := []
  R := Bool
  F := fun x => F_im_isPlain x.1.1 x.1.2.1
  emb := fun r => ([.dat .bool r], [])

noncomputable def E_im_isPlain : Env := envOf []

noncomputable def Z_im_isPlain : Nat → Nat → List Nat := fun _ _ => []

noncomputable def O_im_isPlain : List (Nat × LD) := [(0, DL_im_isPlain_0)]

noncomputable def C_im_isPlain : Code := (f19.body).getD .skip

/-! ### 90 internal/bytealg.IndexByteString -/

noncomputable def F_internal_bytealg_IndexByteString (a1_ : List UInt8) (a2_ : Int) : Option (Int) := some (idxByte a1_ a2_)

noncomputable def D_internal_bytealg_IndexByteString : FD := fdIndexByte

/-! ### 73 internal/stringslite.IndexByte -/

noncomputable def T_internal_stringslite_IndexByte (a1_ : List UInt8) (a2_ : Int) : Tr (Int) :=
  .c (Int) (F_internal_bytealg_IndexByteString a1_ a2_) fun r1_ =>
  .l r1_

noncomputable def F_internal_stringslite_IndexByte (a1_ : List UInt8) (a2_ : Int) : Option (Int) := (T_internal_stringslite_IndexByte a1_ a2_).ev

noncomputable def A_internal_stringslite_IndexByte : Sh := (.cons (.dat .str) (.cons (.dat (.int .u8)) .nil))

noncomputable def I_internal_stringslite_IndexByte : List (Nat × OSh) := []

noncomputable def K_internal_stringslite_IndexByte : RetK := { acts := [], res := [.tmp 4], sh := (.cons (.dat (.int .i64)) .nil), obs := [], pins := [] }

noncomputable def D_internal_stringslite_IndexByte : FD where
  A := A_internal_stringslite_IndexByte
  ins := I_internal_stringslite_IndexByte
  lend := []
  R := Int
  F := fun x => F_internal_stringslite_IndexByte x.1.1 x.1.2.1
  emb := fun r => ([.dat (.int .i64) r], [])

noncomputable def E_internal_stringslite_IndexByte : Env := envOf [(90, D_internal_bytealg_IndexByteString)]

noncomputable def Z_internal_stringslite_IndexByte : Nat → Nat → List Nat := fun _ _ => []

noncomputable def O_internal_stringslite_IndexByte : List (Nat × LD) := []

noncomputable def C_internal_stringslite_IndexByte : Code := (f73.body).getD .skip

/-! ### 57 internal/stringslite.Index -/

noncomputable def T_internal_stringslite_Index (a1_ : List UInt8) (a2_ : List UInt8) : Tr (Int) :=
  .t (((List.length a2_ : Nat) : Int) == (0 : Int))
    (.l (0 : Int))
    (.t (a2_ == a1_)
        (.l (0 : Int))
        (.t (((List.length a2_ : Nat) : Int) == (1 : Int))
            (.g (inR (0 : Int) (List.length a2_)) <|
              .c (Int) (F_internal_stringslite_IndexByte a1_ ((UInt8.toNat (List.getD a2_ (Int.toNat (0 : Int)) 0) : Nat) : Int)) fun r1_ =>
              .l r1_)
            (.g (decide (((List.length a1_ : Nat) : Int) ≤ ((List.length a2_ : Nat) : Int))) <|
              .l (-1 : Int))))

noncomputable def F_internal_stringslite_Index (a1_ : List UInt8) (a2_ : List UInt8) : Option (Int) := (T_internal_stringslite_Index a1_ a2_).ev

noncomputable def A_internal_stringslite_Index : Sh := (.cons (.dat .str) (.cons (.dat .str) .nil))

noncomputable def I_internal_stringslite_Index : List (Nat × OSh) := []

noncomputable def K_internal_stringslite_Index : RetK := { acts := [], res := [.tmp 4], sh := (.cons (.dat (.int .i64)) .nil), obs := [], pins := [] }

noncomputable def D_internal_stringslite_Index : FD where
  A := A_internal_stringslite_Index
  ins := I_internal_stringslite_Index
  lend := []
  R := Int
  F := fun x => F_internal_stringslite_Index x.1.1 x.1.2.1
  emb := fun r => ([.dat (.int .i64) r], [])

noncomputable def E_internal_stringslite_Index : Env := envOf [(73, D_internal_stringslite_IndexByte)]

noncomputable def Z_internal_stringslite_Index : Nat → Nat → List Nat := fun _ _ => []

noncomputable def O_internal_stringslite_Index : List (Nat × LD) := []

noncomputable def C_internal_stringslite_Index : Code := (f57.body).getD .skip

/-! ### 37 strings.Index -/

noncomputable def T_strings_Index (a1_ : List UInt8) (a2_ : List UInt8) : Tr (Int) :=
  .c (Int) (F_internal_stringslite_Index a1_ a2_) fun r1_ =>
  .l r1_

noncomputable def F_strings_Index (a1_ : List UInt8) (a2_ : List UInt8) : Option (Int) := (T_strings_Index a1_ a2_).ev

noncomputable def A_strings_Index : Sh := (.cons (.dat .str) (.cons (.dat .str) .nil))

noncomputable def I_strings_Index : List (Nat × OSh) := []

noncomputable def K_strings_Index : RetK := { acts := [], res := [.tmp 4], sh := (.cons (.dat (.int .i64)) .nil), obs := [], pins := [] }

noncomputable def D_strings_Index : FD where
  A := A_strings_Index
  ins := I_strings_Index
  lend := []
  R := Int
  F := fun x => F_strings_Index x.1.1 x.1.2.1
  emb := fun r => ([.dat (.int .i64) r], [])

noncomputable def E_strings_Index : Env := envOf [(57, D_internal_stringslite_Index)]

noncomputable def Z_strings_Index : Nat → Nat → List Nat := fun _ _ => []

noncomputable def O_strings_Index : List (Nat × LD) := []

noncomputable def C_strings_Index : Code := (f37.body).getD .skip

/-! ### 20 strings.Contains -/

noncomputable def T_strings_Contains (a1_ : List UInt8) (a2_ : List UInt8) : Tr (Bool) :=
  .c (Int) (F_strings_Index a1_ a2_) fun r1_ =>
  .l (decide ((0 : Int) ≤ r1_))

noncomputable def F_strings_Contains (a1_ : List UInt8) (a2_ : List UInt8) : Option (Bool) := (T_strings_Contains a1_ a2_).ev

noncomputable def A_strings_Contains : Sh := (.cons (.dat .str) (.cons (.dat .str) .nil))

noncomputable def I_strings_Contains : List (Nat × OSh) := []

noncomputable def K_strings_Contains : RetK := { acts := [], res := [.tmp 4], sh := (.cons (.dat .bool) .nil), obs := [], pins := [] }

noncomputable def D_strings_Contains : FD where
  A := A_strings_Contains
  ins := I_strings_Contains
  lend := []
  R := Bool
  F := fun x => F_strings_Contains x.1.1 x.1.2.1
  emb := fun r => ([.dat .bool r], [])

noncomputable def E_strings_Contains : Env := envOf [(37, D_strings_Index)]

noncomputable def Z_strings_Contains : Nat → Nat → List Nat := fun _ _ => []

noncomputable def O_strings_Contains : List (Nat × LD) := []

noncomputable def C_strings_Contains : Code := (f20.body).getD .skip

/-! ### 8 loop.example/g01110/impl.IsValidRecord -/

noncomputable def T_im_IsValidRecord (a1_ : List UInt8) (a2_ : List UInt8) : Tr (Bool) :=
  .t (!(a1_ == ([] : List UInt8)))
    (.c (Bool) (F_im_isPlain a1_ (160 : Int)) fun r1_ =>
      .t r1_
        (.c (Bool) (F_im_isPlain a2_ (200 : Int)) fun r2_ =>
          .t r2_
            (.c (Bool) (F_strings_Contains a1_ ([64] : List UInt8)) fun r3_ =>
              .l (!r3_))
            (.l false))
        (.l false))
    (.l false)

noncomputable def F_im_IsValidRecord (a1_ : List UInt8) (a2_ : List UInt8) : Option (Bool) := (T_im_IsValidRecord a1_ a2_).ev

noncomputable def A_im_IsValidRecord : Sh := (.cons (.agg (.cons (.dat .str) (.cons (.dat .str) .nil))) .nil)

noncomputable def I_im_IsValidRecord : List (Nat × OSh) := []

noncomputable def K_im_IsValidRecord : RetK := { acts := [], res := [.tmp 2], sh := (.cons (.dat .bool) .nil), obs := [], pins := [] }

noncomputable def D_im_IsValidRecord : FD where
  A := A_im_IsValidRecord
  ins := I_im_IsValidRecord
  lend := []
  R := Bool
  F := fun x => F_im_IsValidRecord x.1.1.1 x.1.1.2.1
  emb := fun r => ([.dat .bool r], [])

noncomputable def E_im_IsValidRecord : Env := envOf [(19, D_im_isPlain), (20, D_strings_Contains)]

noncomputable def Z_im_IsValidRecord : Nat → Nat → List Nat := fun _ _ => []

noncomputable def O_im_IsValidRecord : List (Nat × LD) := []

noncomputable def C_im_IsValidRecord : Code := (f8.body).getD .skip

/-! ### 3 loop.example/g01110/laws.FnExactIsValidRecord -/

noncomputable def T_lw_FnExactIsValidRecord (a1_ : List UInt8) (a2_ : List UInt8) : Tr (Bool) :=
  .c (Int) (F_lw_szLogRecord a1_ a2_ (1048576 : Int)) fun r1_ =>
  .t (decide (r1_ < (0 : Int)))
    (.l true)
    (.c ((List UInt8) × (List UInt8)) (F_lw_toLogRecord a1_ a2_) fun r2_ =>
      .c (Bool) (F_sp_IsValidRecord r2_.1 r2_.2) fun r3_ =>
      .c ((List UInt8) × (List UInt8)) (F_lw_toLogRecord a1_ a2_) fun r4_ =>
      .c (Bool) (F_im_IsValidRecord r4_.1 r4_.2) fun r5_ =>
      .t (!(r5_ == r3_))
        (.l false)
        (.l true))

noncomputable def F_lw_FnExactIsValidRecord (a1_ : List UInt8) (a2_ : List UInt8) : Option (Bool) := (T_lw_FnExactIsValidRecord a1_ a2_).ev

noncomputable def A_lw_FnExactIsValidRecord : Sh := (.cons (.agg (.cons (.dat .str) (.cons (.dat .str) .nil))) .nil)

noncomputable def I_lw_FnExactIsValidRecord : List (Nat × OSh) := []

noncomputable def K_lw_FnExactIsValidRecord : RetK := { acts := [], res := [.tmp 2], sh := (.cons (.dat .bool) .nil), obs := [], pins := [] }

noncomputable def D_lw_FnExactIsValidRecord : FD where
  A := A_lw_FnExactIsValidRecord
  ins := I_lw_FnExactIsValidRecord
  lend := []
  R := Bool
  F := fun x => F_lw_FnExactIsValidRecord x.1.1.1 x.1.1.2.1
  emb := fun r => ([.dat .bool r], [])

noncomputable def E_lw_FnExactIsValidRecord : Env := envOf [(5, D_lw_szLogRecord), (7, D_lw_toLogRecord), (6, D_sp_IsValidRecord), (8, D_im_IsValidRecord)]

noncomputable def Z_lw_FnExactIsValidRecord : Nat → Nat → List Nat := fun _ _ => []

noncomputable def O_lw_FnExactIsValidRecord : List (Nat × LD) := []

noncomputable def C_lw_FnExactIsValidRecord : Code := (f3.body).getD .skip
end Go.Proofs.Ytakbhfnndcnopaa
