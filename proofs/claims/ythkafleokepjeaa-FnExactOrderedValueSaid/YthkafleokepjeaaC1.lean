import Derived.Test.YthkafleokepjeaaB31
import Derived.Test.YthkafleokepjeaaProg
namespace Go.Proofs.Ythkafleokepjeaa
open Go.Proofs.Try

noncomputable def tabl : List (Nat × TD) := [(3, .sc (.int .i64)), (4, .sc .bool), (5, .sc (.int .u8)), (9, .sc .str), (22, .sl 29 (.slice (.int .i64)) 24), (29, .sl 3 (.int .i64) 8), (31, .st (.pair (.slice (.int .i64)) (.slice (.slice (.int .i64)))) [(29, (.slice (.int .i64))), (22, (.slice (.slice (.int .i64))))]), (33, .st (.pair (.slice (.int .i64)) (.slice (.slice (.int .i64)))) [(29, (.slice (.int .i64))), (22, (.slice (.slice (.int .i64))))]), (101, .sc (.int .u64)), (111, .sc (.int .u64)), (158, .sc (.int .u64))]

noncomputable def tt : Nat → TD := fun i => match look tabl i with
  | some d => d
  | none => .no

/-! ### 69 loop.example/g01110/laws.szIntS -/

noncomputable def T_lw_szIntS (a1_ : List (Int)) (a2_ : Int) : Tr (Int) :=
  .t (decide ((IntKind.wrap .i64 (a2_ - ((List.length a1_ : Nat) : Int))) < (0 : Int)))
    (.l (-1 : Int))
    (.l (IntKind.wrap .i64 (a2_ - ((List.length a1_ : Nat) : Int))))

noncomputable def F_lw_szIntS (a1_ : List (Int)) (a2_ : Int) : Option (Int) := (T_lw_szIntS a1_ a2_).ev

noncomputable def A_lw_szIntS : Sh := (.cons (.dat (.slice (.int .i64))) (.cons (.dat (.int .i64)) .nil))

noncomputable def I_lw_szIntS : List (Nat × OSh) := []

noncomputable def K_lw_szIntS : RetK := { acts := [], res := [.tmp 4], sh := (.cons (.dat (.int .i64)) .nil), obs := [], pins := [] }

noncomputable def D_lw_szIntS : FD where
  A := A_lw_szIntS
  ins := I_lw_szIntS
  lend := []
  R := Int
  F := fun x => F_lw_szIntS x.1.1 x.1.2.1
  emb := fun r => ([.dat (.int .i64) r], [])

noncomputable def E_lw_szIntS : Env := envOf []

noncomputable def Z_lw_szIntS : Nat → Nat → List Nat := fun _ _ => []

noncomputable def O_lw_szIntS : List (Nat × LD) := []

noncomputable def C_lw_szIntS : Code := (f69.body).getD .skip

/-! ### 15 loop.example/g01110/laws.szIntSS -/

noncomputable def S_lw_szIntSS_0 (k : List (List (Int))) (v : (Int) × (Int)) : Tr (((Int) × (Int)) ⊕ ((Int) ⊕ (Unit))) :=
  .t (decide (v.2 < ((List.length k : Nat) : Int)))
    (.g (inR v.2 (List.length k)) <|
      .c (Int) (F_lw_szIntS (List.getD k (Int.toNat v.2) ([] : List (Int))) v.1) fun r4_ =>
      .t (decide (r4_ < (0 : Int)))
        (.l (.inr (.inr ())))
        (.l (.inl (r4_, (IntKind.wrap .i64 (v.2 + (1 : Int)))))))
    (.l (.inr (.inl v.1)))

noncomputable def L_lw_szIntSS_0 (k : List (List (Int))) (v : (Int) × (Int)) : Option ((Int) ⊕ (Unit)) := iter (fun v => (S_lw_szIntSS_0 k v).ev) v

noncomputable def DL_lw_szIntSS_0 : LD where
  head := { acts := [], S := { slots := [0, 1, 5], sh := (.cons (.dat (.slice (.slice (.int .i64)))) (.cons (.dat (.int .i64)) (.cons (.dat (.int .i64)) .nil))), obs := [] } }
  exits := [(0, { acts := [], S := { slots := [1], sh := (.cons (.dat (.int .i64)) .nil), obs := [] } })]
  rets := { acts := [], S := { slots := [4], sh := (.cons (.dat (.int .i64)) .nil), obs := [] } }
  K := List (List (Int))
  V := (Int) × (Int)
  R := (Int) ⊕ (Unit)
  join := fun k v => ((k, (v.1, (v.2, ()))), ())
  sk := fun t => t.1.1
  sv := fun t => (t.1.2.1, t.1.2.2.1)
  step := S_lw_szIntSS_0
  leaf := fun _ r => .s (Int) (Unit) r (fun a => .l (.exit 0 (mkSt ({ slots := [1], sh := (.cons (.dat (.int .i64)) .nil), obs := [] }) ((a, ()), ())))) (fun _ => .l (.ret (mkSt ({ slots := [4], sh := (.cons (.dat (.int .i64)) .nil), obs := [] }) (((-1 : Int), ()), ()))))

noncomputable def T_lw_szIntSS (a1_ : List (List (Int))) (a2_ : Int) : Tr (Int) :=
  .t (decide ((IntKind.wrap .i64 (a2_ - ((List.length a1_ : Nat) : Int))) < (0 : Int)))
    (.l (-1 : Int))
    (.c ((Int) ⊕ (Unit)) (L_lw_szIntSS_0 a1_ ((IntKind.wrap .i64 (a2_ - ((List.length a1_ : Nat) : Int))), (0 : Int))) fun r7_ =>
      .s (Int) (Unit) r7_
        (fun r8_ => .l r8_)
        (fun _ => .l (-1 : Int)))

noncomputable def F_lw_szIntSS (a1_ : List (List (Int))) (a2_ : Int) : Option (Int) := (T_lw_szIntSS a1_ a2_).ev

noncomputable def A_lw_szIntSS : Sh := (.cons (.dat (.slice (.slice (.int .i64)))) (.cons (.dat (.int .i64)) .nil))

noncomputable def I_lw_szIntSS : List (Nat × OSh) := []

noncomputable def K_lw_szIntSS : RetK := { acts := [], res := [.tmp 4], sh := (.cons (.dat (.int .i64)) .nil), obs := [], pins := [] }

noncomputable def D_lw_szIntSS : FD where
  A := A_lw_szIntSS
  ins := I_lw_szIntSS
  lend := []
  R := Int
  F := fun x => F_lw_szIntSS x.1.1 x.1.2.1
  emb := fun r => ([.dat (.int .i64) r], [])

noncomputable def E_lw_szIntSS : Env := envOf [(69, D_lw_szIntS)]

noncomputable def Z_lw_szIntSS : Nat → Nat → List Nat := fun _ _ => []

noncomputable def O_lw_szIntSS : List (Nat × LD) := [(0, DL_lw_szIntSS_0)]

noncomputable def C_lw_szIntSS : Code := (f15.body).getD .skip

/-! ### 22 loop.example/g01110/laws.szField -/

noncomputable def T_lw_szField (a1_ : List (Int)) (a2_ : List (List (Int))) (a3_ : Int) : Tr (Int) :=
  .c (Int) (F_lw_szIntS a1_ a3_) fun r1_ =>
  .t (decide (r1_ < (0 : Int)))
    (.l (-1 : Int))
    (.c (Int) (F_lw_szIntSS a2_ r1_) fun r2_ =>
      .t (decide (r2_ < (0 : Int)))
        (.l (-1 : Int))
        (.l r2_))

noncomputable def F_lw_szField (a1_ : List (Int)) (a2_ : List (List (Int))) (a3_ : Int) : Option (Int) := (T_lw_szField a1_ a2_ a3_).ev

noncomputable def A_lw_szField : Sh := (.cons (.agg (.cons (.dat (.slice (.int .i64))) (.cons (.dat (.slice (.slice (.int .i64)))) .nil))) (.cons (.dat (.int .i64)) .nil))

noncomputable def I_lw_szField : List (Nat × OSh) := []

noncomputable def K_lw_szField : RetK := { acts := [], res := [.tmp 4], sh := (.cons (.dat (.int .i64)) .nil), obs := [], pins := [] }

noncomputable def D_lw_szField : FD where
  A := A_lw_szField
  ins := I_lw_szField
  lend := []
  R := Int
  F := fun x => F_lw_szField x.1.1.1 x.1.1.2.1 x.1.2.1
  emb := fun r => ([.dat (.int .i64) r], [])

noncomputable def E_lw_szField : Env := envOf [(69, D_lw_szIntS), (15, D_lw_szIntSS)]

noncomputable def Z_lw_szField : Nat → Nat → List Nat := fun _ _ => []

noncomputable def O_lw_szField : List (Nat × LD) := []

noncomputable def C_lw_szField : Code := (f22.body).getD .skip

/-! ### 36 loop.example/g01110/laws.toIntS -/

noncomputable def S_lw_toIntS_0 (k : List (Int)) (v : (Int) × (List (Int))) : Tr (((Int) × (List (Int))) ⊕ (List (Int))) :=
  .t (decide (v.1 < ((List.length k : Nat) : Int)))
    (.g (inR v.1 (List.length k)) <|
      .g (inR v.1 (List.length v.2)) <|
      .g (decide ((Int.toNat v.1) < List.length v.2)) <|
      .l (.inl ((IntKind.wrap .i64 (v.1 + (1 : Int))), (List.set v.2 (Int.toNat v.1) (List.getD k (Int.toNat v.1) (0 : Int))))))
    (.l (.inr v.2))

noncomputable def L_lw_toIntS_0 (k : List (Int)) (v : (Int) × (List (Int))) : Option (List (Int)) := iter (fun v => (S_lw_toIntS_0 k v).ev) v

noncomputable def DL_lw_toIntS_0 : LD where
  head := { acts := [], S := { slots := [0, 3, 4], sh := (.cons (.dat (.slice (.int .i64))) (.cons (.arr 7) (.cons (.dat (.int .i64)) .nil))), obs := [(7, .arr 3 (.int .i64))] } }
  exits := [(0, { acts := [], S := { slots := [3], sh := (.cons (.arr 7) .nil), obs := [(7, .arr 3 (.int .i64))] } })]
  rets := { acts := [], S := { slots := [], sh := .nil, obs := [] } }
  K := List (Int)
  V := (Int) × (List (Int))
  R := List (Int)
  join := fun k v => ((k, ((), (v.1, ()))), (v.2, ()))
  sk := fun t => t.1.1
  sv := fun t => (t.1.2.2.1, t.2.1)
  step := S_lw_toIntS_0
  leaf := fun _ r => .l (.exit 0 (mkSt ({ slots := [3], sh := (.cons (.arr 7) .nil), obs := [(7, .arr 3 (.int .i64))] }) (((), ()), (r, ()))))

noncomputable def T_lw_toIntS (a1_ : List (Int)) : Tr (List (Int)) :=
  .g (decide ((0 : Int) ≤ ((List.length a1_ : Nat) : Int)) && decide (((List.length a1_ : Nat) : Int) ≤ ((List.length a1_ : Nat) : Int)) && decide (((8 : Nat) : Int) * ((List.length a1_ : Nat) : Int) ≤ 281474976710656)) <|
  .c (List (Int)) (L_lw_toIntS_0 a1_ ((0 : Int), (List.replicate (Int.toNat ((List.length a1_ : Nat) : Int)) (0 : Int)))) fun r5_ =>
  .l r5_

noncomputable def F_lw_toIntS (a1_ : List (Int)) : Option (List (Int)) := (T_lw_toIntS a1_).ev

noncomputable def A_lw_toIntS : Sh := (.cons (.dat (.slice (.int .i64))) .nil)

noncomputable def I_lw_toIntS : List (Nat × OSh) := []

noncomputable def K_lw_toIntS : RetK := { acts := [.ren 7 0], res := [.tmp 2], sh := (.cons (.arr 0) .nil), obs := [(0, .arr 3 (.int .i64))], pins := [] }

noncomputable def D_lw_toIntS : FD where
  A := A_lw_toIntS
  ins := I_lw_toIntS
  lend := []
  R := List (Int)
  F := fun x => F_lw_toIntS x.1.1
  emb := fun r => ([.arr 0], [(0, .arr 3 (.int .i64) r)])

noncomputable def E_lw_toIntS : Env := envOf []

noncomputable def Z_lw_toIntS : Nat → Nat → List Nat := fun _ _ => []

noncomputable def O_lw_toIntS : List (Nat × LD) := [(0, DL_lw_toIntS_0)]

noncomputable def C_lw_toIntS : Code := (f36.body).getD .skip

/-! ### 17 loop.example/g01110/laws.toIntSS -/

noncomputable def S_lw_toIntSS_0 (k : List (List (Int))) (v : (Int) × (List (List (Int)))) : Tr (((Int) × (List (List (Int)))) ⊕ (List (List (Int)))) :=
  .t (decide (v.1 < ((List.length k : Nat) : Int)))
    (.g (inR v.1 (List.length k)) <|
      .c (List (Int)) (F_lw_toIntS (List.getD k (Int.toNat v.1) ([] : List (Int)))) fun r4_ =>
      .g (inR v.1 (List.length v.2)) <|
      .g (decide ((Int.toNat v.1) < List.length v.2)) <|
      .l (.inl ((IntKind.wrap .i64 (v.1 + (1 : Int))), (List.set v.2 (Int.toNat v.1) r4_))))
    (.l (.inr v.2))

noncomputable def L_lw_toIntSS_0 (k : List (List (Int))) (v : (Int) × (List (List (Int)))) : Option (List (List (Int))) := iter (fun v => (S_lw_toIntSS_0 k v).ev) v

noncomputable def DL_lw_toIntSS_0 : LD where
  head := { acts := [], S := { slots := [0, 3, 4], sh := (.cons (.dat (.slice (.slice (.int .i64)))) (.cons (.arr 7) (.cons (.dat (.int .i64)) .nil))), obs := [(7, .arr 29 (.slice (.int .i64)))] } }
  exits := [(0, { acts := [], S := { slots := [3], sh := (.cons (.arr 7) .nil), obs := [(7, .arr 29 (.slice (.int .i64)))] } })]
  rets := { acts := [], S := { slots := [], sh := .nil, obs := [] } }
  K := List (List (Int))
  V := (Int) × (List (List (Int)))
  R := List (List (Int))
  join := fun k v => ((k, ((), (v.1, ()))), (v.2, ()))
  sk := fun t => t.1.1
  sv := fun t => (t.1.2.2.1, t.2.1)
  step := S_lw_toIntSS_0
  leaf := fun _ r => .l (.exit 0 (mkSt ({ slots := [3], sh := (.cons (.arr 7) .nil), obs := [(7, .arr 29 (.slice (.int .i64)))] }) (((), ()), (r, ()))))

noncomputable def T_lw_toIntSS (a1_ : List (List (Int))) : Tr (List (List (Int))) :=
  .g (decide ((0 : Int) ≤ ((List.length a1_ : Nat) : Int)) && decide (((List.length a1_ : Nat) : Int) ≤ ((List.length a1_ : Nat) : Int)) && decide (((24 : Nat) : Int) * ((List.length a1_ : Nat) : Int) ≤ 281474976710656)) <|
  .c (List (List (Int))) (L_lw_toIntSS_0 a1_ ((0 : Int), (List.replicate (Int.toNat ((List.length a1_ : Nat) : Int)) ([] : List (Int))))) fun r6_ =>
  .l r6_

noncomputable def F_lw_toIntSS (a1_ : List (List (Int))) : Option (List (List (Int))) := (T_lw_toIntSS a1_).ev

noncomputable def A_lw_toIntSS : Sh := (.cons (.dat (.slice (.slice (.int .i64)))) .nil)

noncomputable def I_lw_toIntSS : List (Nat × OSh) := []

noncomputable def K_lw_toIntSS : RetK := { acts := [.ren 7 0], res := [.tmp 2], sh := (.cons (.arr 0) .nil), obs := [(0, .arr 29 (.slice (.int .i64)))], pins := [] }

noncomputable def D_lw_toIntSS : FD where
  A := A_lw_toIntSS
  ins := I_lw_toIntSS
  lend := []
  R := List (List (Int))
  F := fun x => F_lw_toIntSS x.1.1
  emb := fun r => ([.arr 0], [(0, .arr 29 (.slice (.int .i64)) r)])

noncomputable def E_lw_toIntSS : Env := envOf [(36, D_lw_toIntS)]

noncomputable def Z_lw_toIntSS : Nat → Nat → List Nat := fun r i => match look [(5, [(8, [20])])] r with
  | some l => (look l i).getD []
  | none => []

noncomputable def O_lw_toIntSS : List (Nat × LD) := [(0, DL_lw_toIntSS_0)]

noncomputable def C_lw_toIntSS : Code := (f17.body).getD .skip

/-! ### 24 loop.example/g01110/laws.toField -/

noncomputable def T_lw_toField (a1_ : List (Int)) (a2_ : List (List (Int))) : Tr ((List (Int)) × (List (List (Int)))) :=
  .c (List (Int)) (F_lw_toIntS a1_) fun r1_ =>
  .c (List (List (Int))) (F_lw_toIntSS a2_) fun r2_ =>
  .l (r1_, r2_)

noncomputable def F_lw_toField (a1_ : List (Int)) (a2_ : List (List (Int))) : Option ((List (Int)) × (List (List (Int)))) := (T_lw_toField a1_ a2_).ev

noncomputable def A_lw_toField : Sh := (.cons (.agg (.cons (.dat (.slice (.int .i64))) (.cons (.dat (.slice (.slice (.int .i64)))) .nil))) .nil)

noncomputable def I_lw_toField : List (Nat × OSh) := []

noncomputable def K_lw_toField : RetK := { acts := [.fz 384, .fz 640], res := [.cell 2 33], sh := (.cons (.agg (.cons (.dat (.slice (.int .i64))) (.cons (.dat (.slice (.slice (.int .i64)))) .nil))) .nil), obs := [], pins := [] }

noncomputable def D_lw_toField : FD where
  A := A_lw_toField
  ins := I_lw_toField
  lend := []
  R := (List (Int)) × (List (List (Int)))
  F := fun x => F_lw_toField x.1.1.1 x.1.1.2.1
  emb := fun r => ([.agg [.dat (.slice (.int .i64)) r.1, .dat (.slice (.slice (.int .i64))) r.2]], [])

noncomputable def E_lw_toField : Env := envOf [(36, D_lw_toIntS), (17, D_lw_toIntSS)]

noncomputable def Z_lw_toField : Nat → Nat → List Nat := fun _ _ => []

noncomputable def O_lw_toField : List (Nat × LD) := []

noncomputable def C_lw_toField : Code := (f24.body).getD .skip

/-! ### 93 loop.example/g01110/spec.l1In -/

noncomputable def T_sp_l1In (a1_ : Int) (a2_ : Int) (a3_ : Int) : Tr (Bool) :=
  .t (decide (a2_ ≤ a1_))
    (.l (decide (a1_ ≤ a3_)))
    (.l false)

noncomputable def F_sp_l1In (a1_ : Int) (a2_ : Int) (a3_ : Int) : Option (Bool) := (T_sp_l1In a1_ a2_ a3_).ev

noncomputable def A_sp_l1In : Sh := (.cons (.dat (.int .i64)) (.cons (.dat (.int .i64)) (.cons (.dat (.int .i64)) .nil)))

noncomputable def I_sp_l1In : List (Nat × OSh) := []

noncomputable def K_sp_l1In : RetK := { acts := [], res := [.tmp 6], sh := (.cons (.dat .bool) .nil), obs := [], pins := [] }

noncomputable def D_sp_l1In : FD where
  A := A_sp_l1In
  ins := I_sp_l1In
  lend := []
  R := Bool
  F := fun x => F_sp_l1In x.1.1 x.1.2.1 x.1.2.2.1
  emb := fun r => ([.dat .bool r], [])

noncomputable def E_sp_l1In : Env := envOf []

noncomputable def Z_sp_l1In : Nat → Nat → List Nat := fun _ _ => []

noncomputable def O_sp_l1In : List (Nat × LD) := []

noncomputable def C_sp_l1In : Code := (f93.body).getD .skip

/-! ### 118 loop.example/g01110/spec.l2Row -/

noncomputable def S_sp_l2Row_0 (k : (List (Int)) × ((Int) × (Int))) (v : Int) : Tr ((Int) ⊕ ((Unit) ⊕ (Unit))) :=
  .t (decide (v < ((List.length k.1 : Nat) : Int)))
    (.g (inR v (List.length k.1)) <|
      .c (Bool) (F_sp_l1In (List.getD k.1 (Int.toNat v) (0 : Int)) (0 : Int) k.2.2) fun r5_ =>
      .t (!r5_)
        (.l (.inr (.inr ())))
        (.l (.inl (IntKind.wrap .i64 (v + (1 : Int))))))
    (.l (.inr (.inl ())))

noncomputable def L_sp_l2Row_0 (k : (List (Int)) × ((Int) × (Int))) (v : Int) : Option ((Unit) ⊕ (Unit)) := iter (fun v => (S_sp_l2Row_0 k v).ev) v

noncomputable def DL_sp_l2Row_0 : LD where
  head := { acts := [], S := { slots := [0, 1, 2, 7], sh := (.cons (.dat (.slice (.int .i64))) (.cons (.dat (.int .i64)) (.cons (.dat (.int .i64)) (.cons (.dat (.int .i64)) .nil)))), obs := [] } }
  exits := [(0, { acts := [], S := { slots := [0, 1], sh := (.cons (.dat (.slice (.int .i64))) (.cons (.dat (.int .i64)) .nil)), obs := [] } })]
  rets := { acts := [], S := { slots := [6], sh := (.cons (.dat .bool) .nil), obs := [] } }
  K := (List (Int)) × ((Int) × (Int))
  V := Int
  R := (Unit) ⊕ (Unit)
  join := fun k v => ((k.1, (k.2.1, (k.2.2, (v, ())))), ())
  sk := fun t => (t.1.1, (t.1.2.1, t.1.2.2.1))
  sv := fun t => t.1.2.2.2.1
  step := S_sp_l2Row_0
  leaf := fun k r => .s (Unit) (Unit) r (fun _ => .l (.exit 0 (mkSt ({ slots := [0, 1], sh := (.cons (.dat (.slice (.int .i64))) (.cons (.dat (.int .i64)) .nil)), obs := [] }) ((k.1, (k.2.1, ())), ())))) (fun _ => .l (.ret (mkSt ({ slots := [6], sh := (.cons (.dat .bool) .nil), obs := [] }) ((false, ()), ()))))

noncomputable def T_sp_l2Row (a1_ : List (Int)) (a2_ : Int) (a3_ : Int) : Tr (Bool) :=
  .c ((Unit) ⊕ (Unit)) (L_sp_l2Row_0 (a1_, (a2_, a3_)) (0 : Int)) fun r9_ =>
  .s (Unit) (Unit) r9_
    (fun _ => .l (((List.length a1_ : Nat) : Int) == a2_))
    (fun _ => .l false)

noncomputable def F_sp_l2Row (a1_ : List (Int)) (a2_ : Int) (a3_ : Int) : Option (Bool) := (T_sp_l2Row a1_ a2_ a3_).ev

noncomputable def A_sp_l2Row : Sh := (.cons (.dat (.slice (.int .i64))) (.cons (.dat (.int .i64)) (.cons (.dat (.int .i64)) .nil)))

noncomputable def I_sp_l2Row : List (Nat × OSh) := []

noncomputable def K_sp_l2Row : RetK := { acts := [], res := [.tmp 6], sh := (.cons (.dat .bool) .nil), obs := [], pins := [] }

noncomputable def D_sp_l2Row : FD where
  A := A_sp_l2Row
  ins := I_sp_l2Row
  lend := []
  R := Bool
  F := fun x => F_sp_l2Row x.1.1 x.1.2.1 x.1.2.2.1
  emb := fun r => ([.dat .bool r], [])

noncomputable def E_sp_l2Row : Env := envOf [(93, D_sp_l1In)]

noncomputable def Z_sp_l2Row : Nat → Nat → List Nat := fun _ _ => []

noncomputable def O_sp_l2Row : List (Nat × LD) := [(0, DL_sp_l2Row_0)]

noncomputable def C_sp_l2Row : Code := (f118.body).getD .skip

/-! ### 138 loop.example/g01110/spec.l2Good -/

noncomputable def S_sp_l2Good_0 (k : (Int) × ((List (Int)) × (List (List (Int))))) (v : Int) : Tr ((Int) ⊕ ((Unit) ⊕ (Unit))) :=
  .t (decide (v < ((List.length k.2.2 : Nat) : Int)))
    (.g (inR v (List.length k.2.2)) <|
      .c (Bool) (F_sp_l2Row (List.getD k.2.2 (Int.toNat v) ([] : List (Int))) k.1 (99 : Int)) fun r5_ =>
      .t (!r5_)
        (.l (.inr (.inr ())))
        (.l (.inl (IntKind.wrap .i64 (v + (1 : Int))))))
    (.l (.inr (.inl ())))

noncomputable def L_sp_l2Good_0 (k : (Int) × ((List (Int)) × (List (List (Int))))) (v : Int) : Option ((Unit) ⊕ (Unit)) := iter (fun v => (S_sp_l2Good_0 k v).ev) v

noncomputable def DL_sp_l2Good_0 : LD where
  head := { acts := [], S := { slots := [1, 3, 4], sh := (.cons (.box 1 0) (.cons (.dat (.int .i64)) (.cons (.dat (.int .i64)) .nil))), obs := [(1, .cells (.cons (.dat (.slice (.int .i64))) (.cons (.dat (.slice (.slice (.int .i64)))) .nil)))] } }
  exits := [(0, { acts := [], S := { slots := [1, 3], sh := (.cons (.box 1 0) (.cons (.dat (.int .i64)) .nil)), obs := [(1, .cells (.cons (.dat (.slice (.int .i64))) (.cons (.dat (.slice (.slice (.int .i64)))) .nil)))] } })]
  rets := { acts := [], S := { slots := [2], sh := (.cons (.dat .bool) .nil), obs := [] } }
  K := (Int) × ((List (Int)) × (List (List (Int))))
  V := Int
  R := (Unit) ⊕ (Unit)
  join := fun k v => (((), (k.1, (v, ()))), ((k.2.1, (k.2.2, ())), ()))
  sk := fun t => (t.1.2.1, (t.2.1.1, t.2.1.2.1))
  sv := fun t => t.1.2.2.1
  step := S_sp_l2Good_0
  leaf := fun k r => .s (Unit) (Unit) r (fun _ => .l (.exit 0 (mkSt ({ slots := [1, 3], sh := (.cons (.box 1 0) (.cons (.dat (.int .i64)) .nil)), obs := [(1, .cells (.cons (.dat (.slice (.int .i64))) (.cons (.dat (.slice (.slice (.int .i64)))) .nil)))] }) (((), (k.1, ())), ((k.2.1, (k.2.2, ())), ()))))) (fun _ => .l (.ret (mkSt ({ slots := [2], sh := (.cons (.dat .bool) .nil), obs := [] }) ((false, ()), ()))))

noncomputable def T_sp_l2Good (a1_ : List (Int)) (a2_ : List (List (Int))) : Tr (Bool) :=
  .c ((Unit) ⊕ (Unit)) (L_sp_l2Good_0 (((List.length a1_ : Nat) : Int), (a1_, a2_)) (0 : Int)) fun r10_ =>
  .s (Unit) (Unit) r10_
    (fun _ => .c (Bool) (F_sp_l1In ((List.length a1_ : Nat) : Int) (1 : Int) (7 : Int)) fun r13_ =>
      .t r13_
        (.c (Bool) (F_sp_l2Row a1_ ((List.length a1_ : Nat) : Int) (99 : Int)) fun r14_ =>
          .t r14_
            (.l (decide (((List.length a2_ : Nat) : Int) ≤ (7 : Int))))
            (.l false))
        (.l false))
    (fun _ => .l false)

noncomputable def F_sp_l2Good (a1_ : List (Int)) (a2_ : List (List (Int))) : Option (Bool) := (T_sp_l2Good a1_ a2_).ev

noncomputable def A_sp_l2Good : Sh := (.cons (.agg (.cons (.dat (.slice (.int .i64))) (.cons (.dat (.slice (.slice (.int .i64)))) .nil))) .nil)

noncomputable def I_sp_l2Good : List (Nat × OSh) := []

noncomputable def K_sp_l2Good : RetK := { acts := [], res := [.tmp 2], sh := (.cons (.dat .bool) .nil), obs := [], pins := [] }

noncomputable def D_sp_l2Good : FD where
  A := A_sp_l2Good
  ins := I_sp_l2Good
  lend := []
  R := Bool
  F := fun x => F_sp_l2Good x.1.1.1 x.1.1.2.1
  emb := fun r => ([.dat .bool r], [])

noncomputable def E_sp_l2Good : Env := envOf [(118, D_sp_l2Row), (93, D_sp_l1In)]

noncomputable def Z_sp_l2Good : Nat → Nat → List Nat := fun _ _ => []

noncomputable def O_sp_l2Good : List (Nat × LD) := [(0, DL_sp_l2Good_0)]

noncomputable def C_sp_l2Good : Code := (f138.body).getD .skip

/-! ### 178 loop.example/g01110/spec.l1Rising -/

noncomputable def S_sp_l1Rising_0 (k : (List (Int)) × ((Int) × (Int))) (v : Int) : Tr ((Int) ⊕ ((Unit) ⊕ (Unit))) :=
  .t (decide (v < ((List.length k.1 : Nat) : Int)))
    (.g (inR v (List.length k.1)) <|
      .c (Bool) (F_sp_l1In (List.getD k.1 (Int.toNat v) (0 : Int)) k.2.1 k.2.2) fun r5_ =>
      .t (!r5_)
        (.l (.inr (.inr ())))
        (.t (decide ((0 : Int) < v))
            (.g (inR (IntKind.wrap .i64 (v - (1 : Int))) (List.length k.1)) <|
              .g (inR v (List.length k.1)) <|
              .t (decide ((List.getD k.1 (Int.toNat v) (0 : Int)) ≤ (List.getD k.1 (Int.toNat (IntKind.wrap .i64 (v - (1 : Int)))) (0 : Int))))
                (.l (.inr (.inr ())))
                (.l (.inl (IntKind.wrap .i64 (v + (1 : Int))))))
            (.l (.inl (IntKind.wrap .i64 (v + (1 : Int)))))))
    (.l (.inr (.inl ())))

noncomputable def L_sp_l1Rising_0 (k : (List (Int)) × ((Int) × (Int))) (v : Int) : Option ((Unit) ⊕ (Unit)) := iter (fun v => (S_sp_l1Rising_0 k v).ev) v

noncomputable def DL_sp_l1Rising_0 : LD where
  head := { acts := [], S := { slots := [0, 1, 2, 7], sh := (.cons (.dat (.slice (.int .i64))) (.cons (.dat (.int .i64)) (.cons (.dat (.int .i64)) (.cons (.dat (.int .i64)) .nil)))), obs := [] } }
  exits := [(0, { acts := [], S := { slots := [], sh := .nil, obs := [] } })]
  rets := { acts := [], S := { slots := [6], sh := (.cons (.dat .bool) .nil), obs := [] } }
  K := (List (Int)) × ((Int) × (Int))
  V := Int
  R := (Unit) ⊕ (Unit)
  join := fun k v => ((k.1, (k.2.1, (k.2.2, (v, ())))), ())
  sk := fun t => (t.1.1, (t.1.2.1, t.1.2.2.1))
  sv := fun t => t.1.2.2.2.1
  step := S_sp_l1Rising_0
  leaf := fun _ r => .s (Unit) (Unit) r (fun _ => .l (.exit 0 (mkSt ({ slots := [], sh := .nil, obs := [] }) ((), ())))) (fun _ => .l (.ret (mkSt ({ slots := [6], sh := (.cons (.dat .bool) .nil), obs := [] }) ((false, ()), ()))))

noncomputable def T_sp_l1Rising (a1_ : List (Int)) (a2_ : Int) (a3_ : Int) : Tr (Bool) :=
  .c ((Unit) ⊕ (Unit)) (L_sp_l1Rising_0 (a1_, (a2_, a3_)) (0 : Int)) fun r7_ =>
  .s (Unit) (Unit) r7_
    (fun _ => .l true)
    (fun _ => .l false)

noncomputable def F_sp_l1Rising (a1_ : List (Int)) (a2_ : Int) (a3_ : Int) : Option (Bool) := (T_sp_l1Rising a1_ a2_ a3_).ev

noncomputable def A_sp_l1Rising : Sh := (.cons (.dat (.slice (.int .i64))) (.cons (.dat (.int .i64)) (.cons (.dat (.int .i64)) .nil)))

noncomputable def I_sp_l1Rising : List (Nat × OSh) := []

noncomputable def K_sp_l1Rising : RetK := { acts := [], res := [.tmp 6], sh := (.cons (.dat .bool) .nil), obs := [], pins := [] }

noncomputable def D_sp_l1Rising : FD where
  A := A_sp_l1Rising
  ins := I_sp_l1Rising
  lend := []
  R := Bool
  F := fun x => F_sp_l1Rising x.1.1 x.1.2.1 x.1.2.2.1
  emb := fun r => ([.dat .bool r], [])

noncomputable def E_sp_l1Rising : Env := envOf [(93, D_sp_l1In)]

noncomputable def Z_sp_l1Rising : Nat → Nat → List Nat := fun _ _ => []

noncomputable def O_sp_l1Rising : List (Nat × LD) := [(0, DL_sp_l1Rising_0)]

noncomputable def C_sp_l1Rising : Code := (f178.body).getD .skip

/-! ### 139 loop.example/g01110/spec.l2Set -/

noncomputable def T_sp_l2Set (a1_ : List (Int)) (_a2_ : List (List (Int))) (a3_ : List (Int)) : Tr (Bool) :=
  .c (Bool) (F_sp_l1Rising a3_ (0 : Int) (IntKind.wrap .i64 (((List.length a1_ : Nat) : Int) - (1 : Int)))) fun r1_ =>
  .l r1_

noncomputable def F_sp_l2Set (a1_ : List (Int)) (a2_ : List (List (Int))) (a3_ : List (Int)) : Option (Bool) := (T_sp_l2Set a1_ a2_ a3_).ev

noncomputable def A_sp_l2Set : Sh := (.cons (.agg (.cons (.dat (.slice (.int .i64))) (.cons (.dat (.slice (.slice (.int .i64)))) .nil))) (.cons (.dat (.slice (.int .i64))) .nil))

noncomputable def I_sp_l2Set : List (Nat × OSh) := []

noncomputable def K_sp_l2Set : RetK := { acts := [], res := [.tmp 4], sh := (.cons (.dat .bool) .nil), obs := [], pins := [] }

noncomputable def D_sp_l2Set : FD where
  A := A_sp_l2Set
  ins := I_sp_l2Set
  lend := []
  R := Bool
  F := fun x => F_sp_l2Set x.1.1.1 x.1.1.2.1 x.1.2.1
  emb := fun r => ([.dat .bool r], [])

noncomputable def E_sp_l2Set : Env := envOf [(178, D_sp_l1Rising)]

noncomputable def Z_sp_l2Set : Nat → Nat → List Nat := fun _ _ => []

noncomputable def O_sp_l2Set : List (Nat × LD) := []

noncomputable def C_sp_l2Set : Code := (f139.body).getD .skip

/-! ### 85 loop.example/g01110/spec.l2Two -/

noncomputable def T_sp_l2Two (a1_ : List (Int)) (a2_ : List (List (Int))) (a3_ : List (Int)) : Tr (Bool) :=
  .c (Bool) (F_sp_l2Good a1_ a2_) fun r1_ =>
  .t r1_
    (.c (Bool) (F_sp_l2Set a1_ a2_ a3_) fun r2_ =>
      .t r2_
        (.l (decide ((0 : Int) < ((List.length a3_ : Nat) : Int))))
        (.l false))
    (.l false)

noncomputable def F_sp_l2Two (a1_ : List (Int)) (a2_ : List (List (Int))) (a3_ : List (Int)) : Option (Bool) := (T_sp_l2Two a1_ a2_ a3_).ev

noncomputable def A_sp_l2Two : Sh := (.cons (.agg (.cons (.dat (.slice (.int .i64))) (.cons (.dat (.slice (.slice (.int .i64)))) .nil))) (.cons (.dat (.slice (.int .i64))) .nil))

noncomputable def I_sp_l2Two : List (Nat × OSh) := []

noncomputable def K_sp_l2Two : RetK := { acts := [], res := [.tmp 4], sh := (.cons (.dat .bool) .nil), obs := [], pins := [] }

noncomputable def D_sp_l2Two : FD where
  A := A_sp_l2Two
  ins := I_sp_l2Two
  lend := []
  R := Bool
  F := fun x => F_sp_l2Two x.1.1.1 x.1.1.2.1 x.1.2.1
  emb := fun r => ([.dat .bool r], [])

noncomputable def E_sp_l2Two : Env := envOf [(138, D_sp_l2Good), (139, D_sp_l2Set)]

noncomputable def Z_sp_l2Two : Nat → Nat → List Nat := fun _ _ => []

noncomputable def O_sp_l2Two : List (Nat × LD) := []

noncomputable def C_sp_l2Two : Code := (f85.body).getD .skip

/-! ### 185 loop.example/g01110/spec.l2Site -/

noncomputable def S_sp_l2Site_0 (k : (Int) × ((List (Int)) × ((List (Int)) × (List (List (Int)))))) (v : (Int) × (Int)) : Tr (((Int) × (Int)) ⊕ (Int)) :=
  .t (decide (v.2 < ((List.length k.2.1 : Nat) : Int)))
    (.g (inR k.1 (List.length k.2.2.2)) <|
      .g (inR v.2 (List.length k.2.1)) <|
      .g (inR (List.getD k.2.1 (Int.toNat v.2) (0 : Int)) (List.length (List.getD k.2.2.2 (Int.toNat k.1) ([] : List (Int))))) <|
      .g (inR k.1 (List.length k.2.2.2)) <|
      .g (inR v.1 (List.length (List.getD k.2.2.2 (Int.toNat k.1) ([] : List (Int))))) <|
      .t (decide ((List.getD (List.getD k.2.2.2 (Int.toNat k.1) ([] : List (Int))) (Int.toNat (List.getD k.2.1 (Int.toNat v.2) (0 : Int))) (0 : Int)) < (List.getD (List.getD k.2.2.2 (Int.toNat k.1) ([] : List (Int))) (Int.toNat v.1) (0 : Int))))
        (.g (inR v.2 (List.length k.2.1)) <|
          .l (.inl ((List.getD k.2.1 (Int.toNat v.2) (0 : Int)), (IntKind.wrap .i64 (v.2 + (1 : Int))))))
        (.l (.inl (v.1, (IntKind.wrap .i64 (v.2 + (1 : Int)))))))
    (.l (.inr v.1))

noncomputable def L_sp_l2Site_0 (k : (Int) × ((List (Int)) × ((List (Int)) × (List (List (Int)))))) (v : (Int) × (Int)) : Option (Int) := iter (fun v => (S_sp_l2Site_0 k v).ev) v

noncomputable def DL_sp_l2Site_0 : LD where
  head := { acts := [], S := { slots := [1, 2, 3, 7, 8], sh := (.cons (.dat (.int .i64)) (.cons (.dat (.slice (.int .i64))) (.cons (.box 3 0) (.cons (.dat (.int .i64)) (.cons (.dat (.int .i64)) .nil))))), obs := [(3, .cells (.cons (.dat (.slice (.int .i64))) (.cons (.dat (.slice (.slice (.int .i64)))) .nil)))] } }
  exits := [(0, { acts := [], S := { slots := [7], sh := (.cons (.dat (.int .i64)) .nil), obs := [] } })]
  rets := { acts := [], S := { slots := [], sh := .nil, obs := [] } }
  K := (Int) × ((List (Int)) × ((List (Int)) × (List (List (Int)))))
  V := (Int) × (Int)
  R := Int
  join := fun k v => ((k.1, (k.2.1, ((), (v.1, (v.2, ()))))), ((k.2.2.1, (k.2.2.2, ())), ()))
  sk := fun t => (t.1.1, (t.1.2.1, (t.2.1.1, t.2.1.2.1)))
  sv := fun t => (t.1.2.2.2.1, t.1.2.2.2.2.1)
  step := S_sp_l2Site_0
  leaf := fun _ r => .l (.exit 0 (mkSt ({ slots := [7], sh := (.cons (.dat (.int .i64)) .nil), obs := [] }) ((r, ()), ())))

noncomputable def T_sp_l2Site (a1_ : List (Int)) (a2_ : List (List (Int))) (a3_ : Int) (a4_ : List (Int)) : Tr (Int) :=
  .g (inR (0 : Int) (List.length a4_)) <|
  .c (Int) (L_sp_l2Site_0 (a3_, (a4_, (a1_, a2_))) ((List.getD a4_ (Int.toNat (0 : Int)) (0 : Int)), (1 : Int))) fun r8_ =>
  .l r8_

noncomputable def F_sp_l2Site (a1_ : List (Int)) (a2_ : List (List (Int))) (a3_ : Int) (a4_ : List (Int)) : Option (Int) := (T_sp_l2Site a1_ a2_ a3_ a4_).ev

noncomputable def A_sp_l2Site : Sh := (.cons (.agg (.cons (.dat (.slice (.int .i64))) (.cons (.dat (.slice (.slice (.int .i64)))) .nil))) (.cons (.dat (.int .i64)) (.cons (.dat (.slice (.int .i64))) .nil)))

noncomputable def I_sp_l2Site : List (Nat × OSh) := []

noncomputable def K_sp_l2Site : RetK := { acts := [], res := [.tmp 6], sh := (.cons (.dat (.int .i64)) .nil), obs := [], pins := [] }

noncomputable def D_sp_l2Site : FD where
  A := A_sp_l2Site
  ins := I_sp_l2Site
  lend := []
  R := Int
  F := fun x => F_sp_l2Site x.1.1.1 x.1.1.2.1 x.1.2.1 x.1.2.2.1
  emb := fun r => ([.dat (.int .i64) r], [])

noncomputable def E_sp_l2Site : Env := envOf []

noncomputable def Z_sp_l2Site : Nat → Nat → List Nat := fun _ _ => []

noncomputable def O_sp_l2Site : List (Nat × LD) := [(0, DL_sp_l2Site_0)]

noncomputable def C_sp_l2Site : Code := (f185.body).getD .skip

/-! ### 164 loop.example/g01110/spec.l2Nearest -/

noncomputable def T_sp_l2Nearest (a1_ : List (Int)) (a2_ : List (List (Int))) (a3_ : Int) (a4_ : List (Int)) : Tr (Int) :=
  .g (inR a3_ (List.length a2_)) <|
  .c (Int) (F_sp_l2Site a1_ a2_ a3_ a4_) fun r1_ =>
  .g (inR r1_ (List.length (List.getD a2_ (Int.toNat a3_) ([] : List (Int))))) <|
  .l (List.getD (List.getD a2_ (Int.toNat a3_) ([] : List (Int))) (Int.toNat r1_) (0 : Int))

noncomputable def F_sp_l2Nearest (a1_ : List (Int)) (a2_ : List (List (Int))) (a3_ : Int) (a4_ : List (Int)) : Option (Int) := (T_sp_l2Nearest a1_ a2_ a3_ a4_).ev

noncomputable def A_sp_l2Nearest : Sh := (.cons (.agg (.cons (.dat (.slice (.int .i64))) (.cons (.dat (.slice (.slice (.int .i64)))) .nil))) (.cons (.dat (.int .i64)) (.cons (.dat (.slice (.int .i64))) .nil)))

noncomputable def I_sp_l2Nearest : List (Nat × OSh) := []

noncomputable def K_sp_l2Nearest : RetK := { acts := [], res := [.tmp 6], sh := (.cons (.dat (.int .i64)) .nil), obs := [], pins := [] }

noncomputable def D_sp_l2Nearest : FD where
  A := A_sp_l2Nearest
  ins := I_sp_l2Nearest
  lend := []
  R := Int
  F := fun x => F_sp_l2Nearest x.1.1.1 x.1.1.2.1 x.1.2.1 x.1.2.2.1
  emb := fun r => ([.dat (.int .i64) r], [])

noncomputable def E_sp_l2Nearest : Env := envOf [(185, D_sp_l2Site)]

noncomputable def Z_sp_l2Nearest : Nat → Nat → List Nat := fun _ _ => []

noncomputable def O_sp_l2Nearest : List (Nat × LD) := []

noncomputable def C_sp_l2Nearest : Code := (f164.body).getD .skip

/-! ### 119 loop.example/g01110/spec.l11Ordered -/

noncomputable def S_sp_l11Ordered_2 (k : (List (Int)) × ((List (Int)) × ((List (Int)) × ((Int) × ((Int) × ((Int) × ((List (Int)) × (List (List (Int)))))))))) (v : Int) : Tr ((Int) ⊕ (Int)) :=
  .t (decide (v < ((List.length k.2.2.1 : Nat) : Int)))
    (.g (inR v (List.length k.2.2.1)) <|
      .t (decide ((List.getD k.2.2.1 (Int.toNat v) (0 : Int)) ≤ k.2.2.2.2.2.1))
        (.l (.inl (IntKind.wrap .i64 (v + (1 : Int)))))
        (.l (.inr v)))
    (.l (.inr v))

noncomputable def L_sp_l11Ordered_2 (k : (List (Int)) × ((List (Int)) × ((List (Int)) × ((Int) × ((Int) × ((Int) × ((List (Int)) × (List (List (Int)))))))))) (v : Int) : Option (Int) := iter (fun v => (S_sp_l11Ordered_2 k v).ev) v

noncomputable def DL_sp_l11Ordered_2 : LD where
  head := { acts := [], S := { slots := [1, 2, 3, 7, 8, 9, 10, 11], sh := (.cons (.dat (.slice (.int .i64))) (.cons (.dat (.slice (.int .i64))) (.cons (.box 3 0) (.cons (.dat (.slice (.int .i64))) (.cons (.dat (.int .i64)) (.cons (.dat (.int .i64)) (.cons (.dat (.int .i64)) (.cons (.dat (.int .i64)) .nil)))))))), obs := [(3, .cells (.cons (.dat (.slice (.int .i64))) (.cons (.dat (.slice (.slice (.int .i64)))) .nil)))] } }
  exits := [(2, { acts := [], S := { slots := [1, 2, 3, 7, 8, 9, 10, 11], sh := (.cons (.dat (.slice (.int .i64))) (.cons (.dat (.slice (.int .i64))) (.cons (.box 3 0) (.cons (.dat (.slice (.int .i64))) (.cons (.dat (.int .i64)) (.cons (.dat (.int .i64)) (.cons (.dat (.int .i64)) (.cons (.dat (.int .i64)) .nil)))))))), obs := [(3, .cells (.cons (.dat (.slice (.int .i64))) (.cons (.dat (.slice (.slice (.int .i64)))) .nil)))] } })]
  rets := { acts := [], S := { slots := [], sh := .nil, obs := [] } }
  K := (List (Int)) × ((List (Int)) × ((List (Int)) × ((Int) × ((Int) × ((Int) × ((List (Int)) × (List (List (Int)))))))))
  V := Int
  R := Int
  join := fun k v => ((k.1, (k.2.1, ((), (k.2.2.1, (k.2.2.2.1, (k.2.2.2.2.1, (k.2.2.2.2.2.1, (v, ())))))))), ((k.2.2.2.2.2.2.1, (k.2.2.2.2.2.2.2, ())), ()))
  sk := fun t => (t.1.1, (t.1.2.1, (t.1.2.2.2.1, (t.1.2.2.2.2.1, (t.1.2.2.2.2.2.1, (t.1.2.2.2.2.2.2.1, (t.2.1.1, t.2.1.2.1)))))))
  sv := fun t => t.1.2.2.2.2.2.2.2.1
  step := S_sp_l11Ordered_2
  leaf := fun k r => .l (.exit 2 (mkSt ({ slots := [1, 2, 3, 7, 8, 9, 10, 11], sh := (.cons (.dat (.slice (.int .i64))) (.cons (.dat (.slice (.int .i64))) (.cons (.box 3 0) (.cons (.dat (.slice (.int .i64))) (.cons (.dat (.int .i64)) (.cons (.dat (.int .i64)) (.cons (.dat (.int .i64)) (.cons (.dat (.int .i64)) .nil)))))))), obs := [(3, .cells (.cons (.dat (.slice (.int .i64))) (.cons (.dat (.slice (.slice (.int .i64)))) .nil)))] }) ((k.1, (k.2.1, ((), (k.2.2.1, (k.2.2.2.1, (k.2.2.2.2.1, (k.2.2.2.2.2.1, (r, ())))))))), ((k.2.2.2.2.2.2.1, (k.2.2.2.2.2.2.2, ())), ()))))

noncomputable def S_sp_l11Ordered_0 (k : (List (Int)) × ((List (Int)) × ((Int) × ((List (Int)) × (List (List (Int))))))) (v : (List (Int)) × (Int)) : Tr (((List (Int)) × (Int)) ⊕ (List (Int))) :=
  .t (decide (v.2 < ((List.length k.2.2.2.2 : Nat) : Int)))
    (.c (Int) (F_sp_l2Nearest k.2.2.2.1 k.2.2.2.2 v.2 k.1) fun r35_ =>
      .c (Int) (L_sp_l11Ordered_2 (k.1, (k.2.1, (v.1, (k.2.2.1, (v.2, (r35_, (k.2.2.2.1, k.2.2.2.2))))))) (0 : Int)) fun r54_ =>
      .g (decide ((0 : Int) ≤ r54_) && decide (r54_ ≤ ((List.length v.1 : Nat) : Int))) <|
      .g (decide ((List.length ([] : List (Int)) + List.length (List.drop 0 (List.take (Int.toNat r54_) v.1))) * 8 ≤ 140737488355328)) <|
      .g (decide ((List.length (([] : List (Int)) ++ (List.drop 0 (List.take (Int.toNat r54_) v.1))) + List.length ([r35_] : List (Int))) * 8 ≤ 140737488355328)) <|
      .g (decide ((0 : Int) ≤ r54_) && decide (r54_ ≤ ((List.length v.1 : Nat) : Int))) <|
      .g (decide ((List.length ((([] : List (Int)) ++ (List.drop 0 (List.take (Int.toNat r54_) v.1))) ++ ([r35_] : List (Int))) + List.length (List.drop (Int.toNat r54_) (List.take (List.length v.1) v.1))) * 8 ≤ 140737488355328)) <|
      .l (.inl ((((([] : List (Int)) ++ (List.drop 0 (List.take (Int.toNat r54_) v.1))) ++ ([r35_] : List (Int))) ++ (List.drop (Int.toNat r54_) (List.take (List.length v.1) v.1))), (IntKind.wrap .i64 (v.2 + (1 : Int))))))
    (.l (.inr v.1))

noncomputable def L_sp_l11Ordered_0 (k : (List (Int)) × ((List (Int)) × ((Int) × ((List (Int)) × (List (List (Int))))))) (v : (List (Int)) × (Int)) : Option (List (Int)) := iter (fun v => (S_sp_l11Ordered_0 k v).ev) v

noncomputable def DL_sp_l11Ordered_0 : LD where
  head := { acts := [.fz 13, .fz 39], S := { slots := [1, 2, 3, 7, 8, 9], sh := (.cons (.dat (.slice (.int .i64))) (.cons (.dat (.slice (.int .i64))) (.cons (.box 3 0) (.cons (.dat (.slice (.int .i64))) (.cons (.dat (.int .i64)) (.cons (.dat (.int .i64)) .nil)))))), obs := [(3, .cells (.cons (.dat (.slice (.int .i64))) (.cons (.dat (.slice (.slice (.int .i64)))) .nil)))] } }
  exits := [(0, { acts := [], S := { slots := [2, 7, 8], sh := (.cons (.dat (.slice (.int .i64))) (.cons (.dat (.slice (.int .i64))) (.cons (.dat (.int .i64)) .nil))), obs := [] } })]
  rets := { acts := [], S := { slots := [], sh := .nil, obs := [] } }
  K := (List (Int)) × ((List (Int)) × ((Int) × ((List (Int)) × (List (List (Int))))))
  V := (List (Int)) × (Int)
  R := List (Int)
  join := fun k v => ((k.1, (k.2.1, ((), (v.1, (k.2.2.1, (v.2, ())))))), ((k.2.2.2.1, (k.2.2.2.2, ())), ()))
  sk := fun t => (t.1.1, (t.1.2.1, (t.1.2.2.2.2.1, (t.2.1.1, t.2.1.2.1))))
  sv := fun t => (t.1.2.2.2.1, t.1.2.2.2.2.2.1)
  step := S_sp_l11Ordered_0
  leaf := fun k r => .l (.exit 0 (mkSt ({ slots := [2, 7, 8], sh := (.cons (.dat (.slice (.int .i64))) (.cons (.dat (.slice (.int .i64))) (.cons (.dat (.int .i64)) .nil))), obs := [] }) ((k.2.1, (r, (k.2.2.1, ()))), ())))

noncomputable def S_sp_l11Ordered_4 (k : (List (Int)) × (List (Int))) (v : (Int) × (Int)) : Tr (((Int) × (Int)) ⊕ (Int)) :=
  .t (decide (v.2 < ((List.length k.2 : Nat) : Int)))
    (.g (inR v.2 (List.length k.1)) <|
      .g (inR v.2 (List.length k.2)) <|
      .l (.inl ((IntKind.wrap .i64 (v.1 + (IntKind.wrap .i64 ((List.getD k.1 (Int.toNat v.2) (0 : Int)) * (List.getD k.2 (Int.toNat v.2) (0 : Int)))))), (IntKind.wrap .i64 (v.2 + (1 : Int))))))
    (.l (.inr v.1))

noncomputable def L_sp_l11Ordered_4 (k : (List (Int)) × (List (Int))) (v : (Int) × (Int)) : Option (Int) := iter (fun v => (S_sp_l11Ordered_4 k v).ev) v

noncomputable def DL_sp_l11Ordered_4 : LD where
  head := { acts := [], S := { slots := [2, 7, 8, 12], sh := (.cons (.dat (.slice (.int .i64))) (.cons (.dat (.slice (.int .i64))) (.cons (.dat (.int .i64)) (.cons (.dat (.int .i64)) .nil)))), obs := [] } }
  exits := [(4, { acts := [], S := { slots := [8], sh := (.cons (.dat (.int .i64)) .nil), obs := [] } })]
  rets := { acts := [], S := { slots := [], sh := .nil, obs := [] } }
  K := (List (Int)) × (List (Int))
  V := (Int) × (Int)
  R := Int
  join := fun k v => ((k.1, (k.2, (v.1, (v.2, ())))), ())
  sk := fun t => (t.1.1, t.1.2.1)
  sv := fun t => (t.1.2.2.1, t.1.2.2.2.1)
  step := S_sp_l11Ordered_4
  leaf := fun _ r => .l (.exit 4 (mkSt ({ slots := [8], sh := (.cons (.dat (.int .i64)) .nil), obs := [] }) ((r, ()), ())))

noncomputable def T_sp_l11Ordered (a1_ : List (Int)) (a2_ : List (List (Int))) (a3_ : List (Int)) (a4_ : List (Int)) : Tr (Int) :=
  .c (List (Int)) (L_sp_l11Ordered_0 (a3_, (a4_, ((0 : Int), (a1_, a2_)))) (([] : List (Int)), (0 : Int))) fun r58_ =>
  .c (Int) (L_sp_l11Ordered_4 (a4_, r58_) ((0 : Int), (0 : Int))) fun r64_ =>
  .l r64_

noncomputable def F_sp_l11Ordered (a1_ : List (Int)) (a2_ : List (List (Int))) (a3_ : List (Int)) (a4_ : List (Int)) : Option (Int) := (T_sp_l11Ordered a1_ a2_ a3_ a4_).ev

noncomputable def A_sp_l11Ordered : Sh := (.cons (.agg (.cons (.dat (.slice (.int .i64))) (.cons (.dat (.slice (.slice (.int .i64)))) .nil))) (.cons (.dat (.slice (.int .i64))) (.cons (.dat (.slice (.int .i64))) .nil)))

noncomputable def I_sp_l11Ordered : List (Nat × OSh) := []

noncomputable def K_sp_l11Ordered : RetK := { acts := [], res := [.tmp 6], sh := (.cons (.dat (.int .i64)) .nil), obs := [], pins := [] }

noncomputable def D_sp_l11Ordered : FD where
  A := A_sp_l11Ordered
  ins := I_sp_l11Ordered
  lend := []
  R := Int
  F := fun x => F_sp_l11Ordered x.1.1.1 x.1.1.2.1 x.1.2.1 x.1.2.2.1
  emb := fun r => ([.dat (.int .i64) r], [])

noncomputable def E_sp_l11Ordered : Env := envOf [(164, D_sp_l2Nearest)]

noncomputable def Z_sp_l11Ordered : Nat → Nat → List Nat := fun r i => match look [(8, [(0, [7])])] r with
  | some l => (look l i).getD []
  | none => []

noncomputable def O_sp_l11Ordered : List (Nat × LD) := [(2, DL_sp_l11Ordered_2), (0, DL_sp_l11Ordered_0), (4, DL_sp_l11Ordered_4)]

noncomputable def C_sp_l11Ordered : Code := (f119.body).getD .skip

/-! ### 61 loop.example/g01110/spec.OrderedValue -/

noncomputable def T_sp_OrderedValue (a1_ : List (Int)) (a2_ : List (List (Int))) (a3_ : List (Int)) (a4_ : List (Int)) : Tr ((Int) × (Bool)) :=
  .c (Bool) (F_sp_l2Two a1_ a2_ a3_) fun r1_ =>
  .t (!r1_)
    (.l ((0 : Int), false))
    (.c (Bool) (F_sp_l2Row a4_ ((List.length a2_ : Nat) : Int) (99 : Int)) fun r2_ =>
      .t (!r2_)
        (.l ((0 : Int), false))
        (.c (Int) (F_sp_l11Ordered a1_ a2_ a3_ a4_) fun r3_ =>
          .l (r3_, true)))

noncomputable def F_sp_OrderedValue (a1_ : List (Int)) (a2_ : List (List (Int))) (a3_ : List (Int)) (a4_ : List (Int)) : Option ((Int) × (Bool)) := (T_sp_OrderedValue a1_ a2_ a3_ a4_).ev

noncomputable def A_sp_OrderedValue : Sh := (.cons (.agg (.cons (.dat (.slice (.int .i64))) (.cons (.dat (.slice (.slice (.int .i64)))) .nil))) (.cons (.dat (.slice (.int .i64))) (.cons (.dat (.slice (.int .i64))) .nil)))

noncomputable def I_sp_OrderedValue : List (Nat × OSh) := []

noncomputable def K_sp_OrderedValue : RetK := { acts := [], res := [.tmp 6, .tmp 7], sh := (.cons (.dat (.int .i64)) (.cons (.dat .bool) .nil)), obs := [], pins := [] }

noncomputable def D_sp_OrderedValue : FD where
  A := A_sp_OrderedValue
  ins := I_sp_OrderedValue
  lend := []
  R := (Int) × (Bool)
  F := fun x => F_sp_OrderedValue x.1.1.1 x.1.1.2.1 x.1.2.1 x.1.2.2.1
  emb := fun r => ([.dat (.int .i64) r.1, .dat .bool r.2], [])

noncomputable def E_sp_OrderedValue : Env := envOf [(85, D_sp_l2Two), (118, D_sp_l2Row), (119, D_sp_l11Ordered)]

noncomputable def Z_sp_OrderedValue : Nat → Nat → List Nat := fun _ _ => []

noncomputable def O_sp_OrderedValue : List (Nat × LD) := []

noncomputable def C_sp_OrderedValue : Code := (f61.body).getD .skip

/-! ### 73 loop.example/g01110/impl.between -/

noncomputable def T_im_between (a1_ : Int) (a2_ : Int) (a3_ : Int) : Tr (Bool) :=
  .t (decide (a2_ ≤ a1_))
    (.l (decide (a1_ ≤ a3_)))
    (.l false)

noncomputable def F_im_between (a1_ : Int) (a2_ : Int) (a3_ : Int) : Option (Bool) := (T_im_between a1_ a2_ a3_).ev

noncomputable def A_im_between : Sh := (.cons (.dat (.int .i64)) (.cons (.dat (.int .i64)) (.cons (.dat (.int .i64)) .nil)))

noncomputable def I_im_between : List (Nat × OSh) := []

noncomputable def K_im_between : RetK := { acts := [], res := [.tmp 6], sh := (.cons (.dat .bool) .nil), obs := [], pins := [] }

noncomputable def D_im_between : FD where
  A := A_im_between
  ins := I_im_between
  lend := []
  R := Bool
  F := fun x => F_im_between x.1.1 x.1.2.1 x.1.2.2.1
  emb := fun r => ([.dat .bool r], [])

noncomputable def E_im_between : Env := envOf []

noncomputable def Z_im_between : Nat → Nat → List Nat := fun _ _ => []

noncomputable def O_im_between : List (Nat × LD) := []

noncomputable def C_im_between : Code := (f73.body).getD .skip

/-! ### 170 slices.IndexFunc[[]int,int] -/

noncomputable def S_slices_IndexFunc_Sint_int_0 (k : (List (Int)) × (((HL [(.int .i64)] → Option (Bool))) × (Int))) (v : Int) : Tr ((Int) ⊕ ((Unit) ⊕ (Int))) :=
  .t (decide (v < k.2.2))
    (.g (inR v (List.length k.1)) <|
      .c (Bool) (k.2.1 ((List.getD k.1 (Int.toNat v) (0 : Int)), ())) fun r5_ =>
      .t r5_
        (.l (.inr (.inr v)))
        (.l (.inl (IntKind.wrap .i64 (v + (1 : Int))))))
    (.l (.inr (.inl ())))

noncomputable def L_slices_IndexFunc_Sint_int_0 (k : (List (Int)) × (((HL [(.int .i64)] → Option (Bool))) × (Int))) (v : Int) : Option ((Unit) ⊕ (Int)) := iter (fun v => (S_slices_IndexFunc_Sint_int_0 k v).ev) v

noncomputable def DL_slices_IndexFunc_Sint_int_0 : LD where
  head := { acts := [], S := { slots := [0, 1, 7, 8], sh := (.cons (.dat (.slice (.int .i64))) (.cons (.clo [(.int .i64)] .bool) (.cons (.dat (.int .i64)) (.cons (.dat (.int .i64)) .nil)))), obs := [] } }
  exits := [(0, { acts := [], S := { slots := [], sh := .nil, obs := [] } })]
  rets := { acts := [], S := { slots := [4], sh := (.cons (.dat (.int .i64)) .nil), obs := [] } }
  K := (List (Int)) × (((HL [(.int .i64)] → Option (Bool))) × (Int))
  V := Int
  R := (Unit) ⊕ (Int)
  join := fun k v => ((k.1, (k.2.1, (k.2.2, (v, ())))), ())
  sk := fun t => (t.1.1, (t.1.2.1, t.1.2.2.1))
  sv := fun t => t.1.2.2.2.1
  step := S_slices_IndexFunc_Sint_int_0
  leaf := fun _ r => .s (Unit) (Int) r (fun _ => .l (.exit 0 (mkSt ({ slots := [], sh := .nil, obs := [] }) ((), ())))) (fun b => .l (.ret (mkSt ({ slots := [4], sh := (.cons (.dat (.int .i64)) .nil), obs := [] }) ((b, ()), ()))))

noncomputable def T_slices_IndexFunc_Sint_int (a1_ : List (Int)) (a2_ : (HL [(.int .i64)] → Option (Bool))) : Tr (Int) :=
  .c ((Unit) ⊕ (Int)) (L_slices_IndexFunc_Sint_int_0 (a1_, (a2_, ((List.length a1_ : Nat) : Int))) (0 : Int)) fun r7_ =>
  .s (Unit) (Int) r7_
    (fun _ => .l (-1 : Int))
    (fun r9_ => .l r9_)

noncomputable def F_slices_IndexFunc_Sint_int (a1_ : List (Int)) (a2_ : (HL [(.int .i64)] → Option (Bool))) : Option (Int) := (T_slices_IndexFunc_Sint_int a1_ a2_).ev

noncomputable def A_slices_IndexFunc_Sint_int : Sh := (.cons (.dat (.slice (.int .i64))) (.cons (.clo [(.int .i64)] .bool) .nil))

noncomputable def I_slices_IndexFunc_Sint_int : List (Nat × OSh) := []

noncomputable def K_slices_IndexFunc_Sint_int : RetK := { acts := [], res := [.tmp 4], sh := (.cons (.dat (.int .i64)) .nil), obs := [], pins := [] }

noncomputable def D_slices_IndexFunc_Sint_int : FD where
  A := A_slices_IndexFunc_Sint_int
  ins := I_slices_IndexFunc_Sint_int
  lend := []
  R := Int
  F := fun x => F_slices_IndexFunc_Sint_int x.1.1 x.1.2.1
  emb := fun r => ([.dat (.int .i64) r], [])

noncomputable def E_slices_IndexFunc_Sint_int : Env := envOf []

noncomputable def Z_slices_IndexFunc_Sint_int : Nat → Nat → List Nat := fun _ _ => []

noncomputable def O_slices_IndexFunc_Sint_int : List (Nat × LD) := [(0, DL_slices_IndexFunc_Sint_int_0)]

noncomputable def C_slices_IndexFunc_Sint_int : Code := (f170.body).getD .skip

/-! ### 125 slices.ContainsFunc[[]int,int] -/

noncomputable def T_slices_ContainsFunc_Sint_int (a1_ : List (Int)) (a2_ : (HL [(.int .i64)] → Option (Bool))) : Tr (Bool) :=
  .c (Int) (F_slices_IndexFunc_Sint_int a1_ a2_) fun r1_ =>
  .l (decide ((0 : Int) ≤ r1_))

noncomputable def F_slices_ContainsFunc_Sint_int (a1_ : List (Int)) (a2_ : (HL [(.int .i64)] → Option (Bool))) : Option (Bool) := (T_slices_ContainsFunc_Sint_int a1_ a2_).ev

noncomputable def A_slices_ContainsFunc_Sint_int : Sh := (.cons (.dat (.slice (.int .i64))) (.cons (.clo [(.int .i64)] .bool) .nil))

noncomputable def I_slices_ContainsFunc_Sint_int : List (Nat × OSh) := []

noncomputable def K_slices_ContainsFunc_Sint_int : RetK := { acts := [], res := [.tmp 4], sh := (.cons (.dat .bool) .nil), obs := [], pins := [] }

noncomputable def D_slices_ContainsFunc_Sint_int : FD where
  A := A_slices_ContainsFunc_Sint_int
  ins := I_slices_ContainsFunc_Sint_int
  lend := []
  R := Bool
  F := fun x => F_slices_ContainsFunc_Sint_int x.1.1 x.1.2.1
  emb := fun r => ([.dat .bool r], [])

noncomputable def E_slices_ContainsFunc_Sint_int : Env := envOf [(170, D_slices_IndexFunc_Sint_int)]

noncomputable def Z_slices_ContainsFunc_Sint_int : Nat → Nat → List Nat := fun _ _ => []

noncomputable def O_slices_ContainsFunc_Sint_int : List (Nat × LD) := []

noncomputable def C_slices_ContainsFunc_Sint_int : Code := (f125.body).getD .skip

/-! ### 177 loop.example/g01110/impl.areBetween 1 -/

noncomputable def T_im_areBetween_1 (a1_ : Int) (a2_ : Int) (a3_ : Int) : Tr (Bool) :=
  .c (Bool) (F_im_between a1_ a2_ a3_) fun r1_ =>
  .l (!r1_)

noncomputable def F_im_areBetween_1 (a1_ : Int) (a2_ : Int) (a3_ : Int) : Option (Bool) := (T_im_areBetween_1 a1_ a2_ a3_).ev

noncomputable def A_im_areBetween_1 : Sh := (.cons (.dat (.int .i64)) (.cons (.ptr (.cons (.dat (.int .i64)) .nil)) (.cons (.ptr (.cons (.dat (.int .i64)) .nil)) .nil)))

noncomputable def I_im_areBetween_1 : List (Nat × OSh) := []

noncomputable def K_im_areBetween_1 : RetK := { acts := [], res := [.tmp 4], sh := (.cons (.dat .bool) .nil), obs := [], pins := [] }

noncomputable def D_im_areBetween_1 : FD where
  A := A_im_areBetween_1
  ins := I_im_areBetween_1
  lend := []
  R := Bool
  F := fun x => F_im_areBetween_1 x.1.1 x.1.2.1.1 x.1.2.2.1.1
  emb := fun r => ([.dat .bool r], [])

noncomputable def E_im_areBetween_1 : Env := envOf [(73, D_im_between)]

noncomputable def Z_im_areBetween_1 : Nat → Nat → List Nat := fun _ _ => []

noncomputable def O_im_areBetween_1 : List (Nat × LD) := []

noncomputable def C_im_areBetween_1 : Code := (f177.body).getD .skip

/-! ### 136 loop.example/g01110/impl.areBetween -/

noncomputable def T_im_areBetween (a1_ : List (Int)) (a2_ : Int) (a3_ : Int) : Tr (Bool) :=
  .c (Bool) (F_slices_ContainsFunc_Sint_int a1_ (fun h1_ => Option.bind (F_im_areBetween_1 h1_.1 a2_ a3_) fun y2_ => some y2_)) fun r3_ =>
  .l (!r3_)

noncomputable def F_im_areBetween (a1_ : List (Int)) (a2_ : Int) (a3_ : Int) : Option (Bool) := (T_im_areBetween a1_ a2_ a3_).ev

noncomputable def A_im_areBetween : Sh := (.cons (.dat (.slice (.int .i64))) (.cons (.dat (.int .i64)) (.cons (.dat (.int .i64)) .nil)))

noncomputable def I_im_areBetween : List (Nat × OSh) := []

noncomputable def K_im_areBetween : RetK := { acts := [], res := [.tmp 6], sh := (.cons (.dat .bool) .nil), obs := [], pins := [] }

noncomputable def D_im_areBetween : FD where
  A := A_im_areBetween
  ins := I_im_areBetween
  lend := []
  R := Bool
  F := fun x => F_im_areBetween x.1.1 x.1.2.1 x.1.2.2.1
  emb := fun r => ([.dat .bool r], [])

noncomputable def E_im_areBetween : Env := envOf [(125, D_slices_ContainsFunc_Sint_int), (177, D_im_areBetween_1)]

noncomputable def Z_im_areBetween : Nat → Nat → List Nat := fun _ _ => []

noncomputable def O_im_areBetween : List (Nat × LD) := []

noncomputable def C_im_areBetween : Code := (f136.body).getD .skip

/-! ### 74 slices.IndexFunc[[][]int,[]int] -/

noncomputable def S_slices_IndexFunc_SSint_Sint_0 (k : (List (List (Int))) × (((HL [(.slice (.int .i64))] → Option (Bool))) × (Int))) (v : Int) : Tr ((Int) ⊕ ((Unit) ⊕ (Int))) :=
  .t (decide (v < k.2.2))
    (.g (inR v (List.length k.1)) <|
      .c (Bool) (k.2.1 ((List.getD k.1 (Int.toNat v) ([] : List (Int))), ())) fun r5_ =>
      .t r5_
        (.l (.inr (.inr v)))
        (.l (.inl (IntKind.wrap .i64 (v + (1 : Int))))))
    (.l (.inr (.inl ())))

noncomputable def L_slices_IndexFunc_SSint_Sint_0 (k : (List (List (Int))) × (((HL [(.slice (.int .i64))] → Option (Bool))) × (Int))) (v : Int) : Option ((Unit) ⊕ (Int)) := iter (fun v => (S_slices_IndexFunc_SSint_Sint_0 k v).ev) v

noncomputable def DL_slices_IndexFunc_SSint_Sint_0 : LD where
  head := { acts := [], S := { slots := [0, 1, 7, 8], sh := (.cons (.dat (.slice (.slice (.int .i64)))) (.cons (.clo [(.slice (.int .i64))] .bool) (.cons (.dat (.int .i64)) (.cons (.dat (.int .i64)) .nil)))), obs := [] } }
  exits := [(0, { acts := [], S := { slots := [], sh := .nil, obs := [] } })]
  rets := { acts := [], S := { slots := [4], sh := (.cons (.dat (.int .i64)) .nil), obs := [] } }
  K := (List (List (Int))) × (((HL [(.slice (.int .i64))] → Option (Bool))) × (Int))
  V := Int
  R := (Unit) ⊕ (Int)
  join := fun k v => ((k.1, (k.2.1, (k.2.2, (v, ())))), ())
  sk := fun t => (t.1.1, (t.1.2.1, t.1.2.2.1))
  sv := fun t => t.1.2.2.2.1
  step := S_slices_IndexFunc_SSint_Sint_0
  leaf := fun _ r => .s (Unit) (Int) r (fun _ => .l (.exit 0 (mkSt ({ slots := [], sh := .nil, obs := [] }) ((), ())))) (fun b => .l (.ret (mkSt ({ slots := [4], sh := (.cons (.dat (.int .i64)) .nil), obs := [] }) ((b, ()), ()))))

noncomputable def T_slices_IndexFunc_SSint_Sint (a1_ : List (List (Int))) (a2_ : (HL [(.slice (.int .i64))] → Option (Bool))) : Tr (Int) :=
  .c ((Unit) ⊕ (Int)) (L_slices_IndexFunc_SSint_Sint_0 (a1_, (a2_, ((List.length a1_ : Nat) : Int))) (0 : Int)) fun r7_ =>
  .s (Unit) (Int) r7_
    (fun _ => .l (-1 : Int))
    (fun r9_ => .l r9_)

noncomputable def F_slices_IndexFunc_SSint_Sint (a1_ : List (List (Int))) (a2_ : (HL [(.slice (.int .i64))] → Option (Bool))) : Option (Int) := (T_slices_IndexFunc_SSint_Sint a1_ a2_).ev

noncomputable def A_slices_IndexFunc_SSint_Sint : Sh := (.cons (.dat (.slice (.slice (.int .i64)))) (.cons (.clo [(.slice (.int .i64))] .bool) .nil))

noncomputable def I_slices_IndexFunc_SSint_Sint : List (Nat × OSh) := []

noncomputable def K_slices_IndexFunc_SSint_Sint : RetK := { acts := [], res := [.tmp 4], sh := (.cons (.dat (.int .i64)) .nil), obs := [], pins := [] }

noncomputable def D_slices_IndexFunc_SSint_Sint : FD where
  A := A_slices_IndexFunc_SSint_Sint
  ins := I_slices_IndexFunc_SSint_Sint
  lend := []
  R := Int
  F := fun x => F_slices_IndexFunc_SSint_Sint x.1.1 x.1.2.1
  emb := fun r => ([.dat (.int .i64) r], [])

noncomputable def E_slices_IndexFunc_SSint_Sint : Env := envOf []

noncomputable def Z_slices_IndexFunc_SSint_Sint : Nat → Nat → List Nat := fun _ _ => []

noncomputable def O_slices_IndexFunc_SSint_Sint : List (Nat × LD) := [(0, DL_slices_IndexFunc_SSint_Sint_0)]

noncomputable def C_slices_IndexFunc_SSint_Sint : Code := (f74.body).getD .skip

/-! ### 141 slices.ContainsFunc[[][]int,[]int] -/

noncomputable def T_slices_ContainsFunc_SSint_Sint (a1_ : List (List (Int))) (a2_ : (HL [(.slice (.int .i64))] → Option (Bool))) : Tr (Bool) :=
  .c (Int) (F_slices_IndexFunc_SSint_Sint a1_ a2_) fun r1_ =>
  .l (decide ((0 : Int) ≤ r1_))

noncomputable def F_slices_ContainsFunc_SSint_Sint (a1_ : List (List (Int))) (a2_ : (HL [(.slice (.int .i64))] → Option (Bool))) : Option (Bool) := (T_slices_ContainsFunc_SSint_Sint a1_ a2_).ev

noncomputable def A_slices_ContainsFunc_SSint_Sint : Sh := (.cons (.dat (.slice (.slice (.int .i64)))) (.cons (.clo [(.slice (.int .i64))] .bool) .nil))

noncomputable def I_slices_ContainsFunc_SSint_Sint : List (Nat × OSh) := []

noncomputable def K_slices_ContainsFunc_SSint_Sint : RetK := { acts := [], res := [.tmp 4], sh := (.cons (.dat .bool) .nil), obs := [], pins := [] }

noncomputable def D_slices_ContainsFunc_SSint_Sint : FD where
  A := A_slices_ContainsFunc_SSint_Sint
  ins := I_slices_ContainsFunc_SSint_Sint
  lend := []
  R := Bool
  F := fun x => F_slices_ContainsFunc_SSint_Sint x.1.1 x.1.2.1
  emb := fun r => ([.dat .bool r], [])

noncomputable def E_slices_ContainsFunc_SSint_Sint : Env := envOf [(74, D_slices_IndexFunc_SSint_Sint)]

noncomputable def Z_slices_ContainsFunc_SSint_Sint : Nat → Nat → List Nat := fun _ _ => []

noncomputable def O_slices_ContainsFunc_SSint_Sint : List (Nat × LD) := []

noncomputable def C_slices_ContainsFunc_SSint_Sint : Code := (f141.body).getD .skip

/-! ### 142 loop.example/g01110/impl.IsField 1 -/

noncomputable def T_im_IsField_1 (a1_ : List (Int)) (a2_ : List (Int)) (_a3_ : List (List (Int))) : Tr (Bool) :=
  .t (((List.length a1_ : Nat) : Int) != ((List.length a2_ : Nat) : Int))
    (.l true)
    (.c (Bool) (F_im_areBetween a1_ (0 : Int) (99 : Int)) fun r1_ =>
      .l (!r1_))

noncomputable def F_im_IsField_1 (a1_ : List (Int)) (a2_ : List (Int)) (a3_ : List (List (Int))) : Option (Bool) := (T_im_IsField_1 a1_ a2_ a3_).ev

noncomputable def A_im_IsField_1 : Sh := (.cons (.dat (.slice (.int .i64))) (.cons (.ptr (.cons (.dat (.slice (.int .i64))) (.cons (.dat (.slice (.slice (.int .i64)))) .nil))) .nil))

noncomputable def I_im_IsField_1 : List (Nat × OSh) := []

noncomputable def K_im_IsField_1 : RetK := { acts := [], res := [.tmp 3], sh := (.cons (.dat .bool) .nil), obs := [], pins := [] }

noncomputable def D_im_IsField_1 : FD where
  A := A_im_IsField_1
  ins := I_im_IsField_1
  lend := []
  R := Bool
  F := fun x => F_im_IsField_1 x.1.1 x.1.2.1.1 x.1.2.1.2.1
  emb := fun r => ([.dat .bool r], [])

noncomputable def E_im_IsField_1 : Env := envOf [(136, D_im_areBetween)]

noncomputable def Z_im_IsField_1 : Nat → Nat → List Nat := fun _ _ => []

noncomputable def O_im_IsField_1 : List (Nat × LD) := []

noncomputable def C_im_IsField_1 : Code := (f142.body).getD .skip

/-! ### 79 loop.example/g01110/impl.IsField -/

noncomputable def T_im_IsField (a1_ : List (Int)) (a2_ : List (List (Int))) : Tr (Bool) :=
  .c (Bool) (F_im_between ((List.length a1_ : Nat) : Int) (1 : Int) (7 : Int)) fun r1_ =>
  .t r1_
    (.c (Bool) (F_im_areBetween a1_ (0 : Int) (99 : Int)) fun r2_ =>
      .t r2_
        (.t (decide (((List.length a2_ : Nat) : Int) ≤ (7 : Int)))
            (.c (Bool) (F_slices_ContainsFunc_SSint_Sint a2_ (fun h3_ => Option.bind (F_im_IsField_1 h3_.1 a1_ a2_) fun y4_ => some y4_)) fun r5_ =>
              .l (!r5_))
            (.l false))
        (.l false))
    (.l false)

noncomputable def F_im_IsField (a1_ : List (Int)) (a2_ : List (List (Int))) : Option (Bool) := (T_im_IsField a1_ a2_).ev

noncomputable def A_im_IsField : Sh := (.cons (.agg (.cons (.dat (.slice (.int .i64))) (.cons (.dat (.slice (.slice (.int .i64)))) .nil))) .nil)

noncomputable def I_im_IsField : List (Nat × OSh) := []

noncomputable def K_im_IsField : RetK := { acts := [], res := [.tmp 2], sh := (.cons (.dat .bool) .nil), obs := [], pins := [] }

noncomputable def D_im_IsField : FD where
  A := A_im_IsField
  ins := I_im_IsField
  lend := []
  R := Bool
  F := fun x => F_im_IsField x.1.1.1 x.1.1.2.1
  emb := fun r => ([.dat .bool r], [])

noncomputable def E_im_IsField : Env := envOf [(73, D_im_between), (136, D_im_areBetween), (141, D_slices_ContainsFunc_SSint_Sint), (142, D_im_IsField_1)]

noncomputable def Z_im_IsField : Nat → Nat → List Nat := fun _ _ => []

noncomputable def O_im_IsField : List (Nat × LD) := []

noncomputable def C_im_IsField : Code := (f79.body).getD .skip

/-! ### 146 loop.example/g01110/impl.isRising -/

noncomputable def S_im_isRising_0 (k : (List (Int)) × ((Int) × ((List (Int)) × (Int)))) (v : Int) : Tr ((Int) ⊕ ((Unit) ⊕ (Unit))) :=
  .t (decide (v < k.2.2.2))
    (.g (inR v (List.length k.2.2.1)) <|
      .c (Bool) (F_im_between (List.getD k.2.2.1 (Int.toNat v) (0 : Int)) (0 : Int) (IntKind.wrap .i64 (k.2.1 - (1 : Int)))) fun r6_ =>
      .t (!r6_)
        (.l (.inr (.inr ())))
        (.t (decide ((0 : Int) < v))
            (.g (inR (IntKind.wrap .i64 (v - (1 : Int))) (List.length k.1)) <|
              .t (decide ((List.getD k.2.2.1 (Int.toNat v) (0 : Int)) ≤ (List.getD k.1 (Int.toNat (IntKind.wrap .i64 (v - (1 : Int)))) (0 : Int))))
                (.l (.inr (.inr ())))
                (.l (.inl (IntKind.wrap .i64 (v + (1 : Int))))))
            (.l (.inl (IntKind.wrap .i64 (v + (1 : Int)))))))
    (.l (.inr (.inl ())))

noncomputable def L_im_isRising_0 (k : (List (Int)) × ((Int) × ((List (Int)) × (Int)))) (v : Int) : Option ((Unit) ⊕ (Unit)) := iter (fun v => (S_im_isRising_0 k v).ev) v

noncomputable def DL_im_isRising_0 : LD where
  head := { acts := [], S := { slots := [0, 1, 7, 8, 9], sh := (.cons (.dat (.slice (.int .i64))) (.cons (.dat (.int .i64)) (.cons (.dat (.slice (.int .i64))) (.cons (.dat (.int .i64)) (.cons (.dat (.int .i64)) .nil))))), obs := [] } }
  exits := [(0, { acts := [], S := { slots := [], sh := .nil, obs := [] } })]
  rets := { acts := [], S := { slots := [4], sh := (.cons (.dat .bool) .nil), obs := [] } }
  K := (List (Int)) × ((Int) × ((List (Int)) × (Int)))
  V := Int
  R := (Unit) ⊕ (Unit)
  join := fun k v => ((k.1, (k.2.1, (k.2.2.1, (k.2.2.2, (v, ()))))), ())
  sk := fun t => (t.1.1, (t.1.2.1, (t.1.2.2.1, t.1.2.2.2.1)))
  sv := fun t => t.1.2.2.2.2.1
  step := S_im_isRising_0
  leaf := fun _ r => .s (Unit) (Unit) r (fun _ => .l (.exit 0 (mkSt ({ slots := [], sh := .nil, obs := [] }) ((), ())))) (fun _ => .l (.ret (mkSt ({ slots := [4], sh := (.cons (.dat .bool) .nil), obs := [] }) ((false, ()), ()))))

noncomputable def T_im_isRising (a1_ : List (Int)) (a2_ : Int) : Tr (Bool) :=
  .c ((Unit) ⊕ (Unit)) (L_im_isRising_0 (a1_, (a2_, (a1_, ((List.length a1_ : Nat) : Int)))) (0 : Int)) fun r8_ =>
  .s (Unit) (Unit) r8_
    (fun _ => .l true)
    (fun _ => .l false)

noncomputable def F_im_isRising (a1_ : List (Int)) (a2_ : Int) : Option (Bool) := (T_im_isRising a1_ a2_).ev

noncomputable def A_im_isRising : Sh := (.cons (.dat (.slice (.int .i64))) (.cons (.dat (.int .i64)) .nil))

noncomputable def I_im_isRising : List (Nat × OSh) := []

noncomputable def K_im_isRising : RetK := { acts := [], res := [.tmp 4], sh := (.cons (.dat .bool) .nil), obs := [], pins := [] }

noncomputable def D_im_isRising : FD where
  A := A_im_isRising
  ins := I_im_isRising
  lend := []
  R := Bool
  F := fun x => F_im_isRising x.1.1 x.1.2.1
  emb := fun r => ([.dat .bool r], [])

noncomputable def E_im_isRising : Env := envOf [(73, D_im_between)]

noncomputable def Z_im_isRising : Nat → Nat → List Nat := fun _ _ => []

noncomputable def O_im_isRising : List (Nat × LD) := [(0, DL_im_isRising_0)]

noncomputable def C_im_isRising : Code := (f146.body).getD .skip

/-! ### 149 (loop.example/g01110/impl.Field).isSet -/

noncomputable def T_im_Field_isSet (a1_ : List (Int)) (_a2_ : List (List (Int))) (a3_ : List (Int)) : Tr (Bool) :=
  .t (decide ((0 : Int) < ((List.length a3_ : Nat) : Int)))
    (.c (Bool) (F_im_isRising a3_ ((List.length a1_ : Nat) : Int)) fun r1_ =>
      .l r1_)
    (.l false)

noncomputable def F_im_Field_isSet (a1_ : List (Int)) (a2_ : List (List (Int))) (a3_ : List (Int)) : Option (Bool) := (T_im_Field_isSet a1_ a2_ a3_).ev

noncomputable def A_im_Field_isSet : Sh := (.cons (.agg (.cons (.dat (.slice (.int .i64))) (.cons (.dat (.slice (.slice (.int .i64)))) .nil))) (.cons (.dat (.slice (.int .i64))) .nil))

noncomputable def I_im_Field_isSet : List (Nat × OSh) := []

noncomputable def K_im_Field_isSet : RetK := { acts := [], res := [.tmp 4], sh := (.cons (.dat .bool) .nil), obs := [], pins := [] }

noncomputable def D_im_Field_isSet : FD where
  A := A_im_Field_isSet
  ins := I_im_Field_isSet
  lend := []
  R := Bool
  F := fun x => F_im_Field_isSet x.1.1.1 x.1.1.2.1 x.1.2.1
  emb := fun r => ([.dat .bool r], [])

noncomputable def E_im_Field_isSet : Env := envOf [(146, D_im_isRising)]

noncomputable def Z_im_Field_isSet : Nat → Nat → List Nat := fun _ _ => []

noncomputable def O_im_Field_isSet : List (Nat × LD) := []

noncomputable def C_im_Field_isSet : Code := (f149.body).getD .skip

/-! ### 88 loop.example/g01110/impl.isOpened -/

noncomputable def T_im_isOpened (a1_ : List (Int)) (a2_ : List (List (Int))) (a3_ : List (Int)) : Tr (Bool) :=
  .c (Bool) (F_im_IsField a1_ a2_) fun r1_ =>
  .t r1_
    (.c (Bool) (F_im_Field_isSet a1_ a2_ a3_) fun r2_ =>
      .l r2_)
    (.l false)

noncomputable def F_im_isOpened (a1_ : List (Int)) (a2_ : List (List (Int))) (a3_ : List (Int)) : Option (Bool) := (T_im_isOpened a1_ a2_ a3_).ev

noncomputable def A_im_isOpened : Sh := (.cons (.agg (.cons (.dat (.slice (.int .i64))) (.cons (.dat (.slice (.slice (.int .i64)))) .nil))) (.cons (.dat (.slice (.int .i64))) .nil))

noncomputable def I_im_isOpened : List (Nat × OSh) := []

noncomputable def K_im_isOpened : RetK := { acts := [], res := [.tmp 4], sh := (.cons (.dat .bool) .nil), obs := [], pins := [] }

noncomputable def D_im_isOpened : FD where
  A := A_im_isOpened
  ins := I_im_isOpened
  lend := []
  R := Bool
  F := fun x => F_im_isOpened x.1.1.1 x.1.1.2.1 x.1.2.1
  emb := fun r => ([.dat .bool r], [])

noncomputable def E_im_isOpened : Env := envOf [(79, D_im_IsField), (149, D_im_Field_isSet)]

noncomputable def Z_im_isOpened : Nat → Nat → List Nat := fun _ _ => []

noncomputable def O_im_isOpened : List (Nat × LD) := []

noncomputable def C_im_isOpened : Code := (f88.body).getD .skip

/-! ### 120 (loop.example/g01110/impl.Field).areWeights -/

noncomputable def T_im_Field_areWeights (_a1_ : List (Int)) (a2_ : List (List (Int))) (a3_ : List (Int)) : Tr (Bool) :=
  .t (((List.length a3_ : Nat) : Int) == ((List.length a2_ : Nat) : Int))
    (.c (Bool) (F_im_areBetween a3_ (0 : Int) (99 : Int)) fun r1_ =>
      .l r1_)
    (.l false)

noncomputable def F_im_Field_areWeights (a1_ : List (Int)) (a2_ : List (List (Int))) (a3_ : List (Int)) : Option (Bool) := (T_im_Field_areWeights a1_ a2_ a3_).ev

noncomputable def A_im_Field_areWeights : Sh := (.cons (.agg (.cons (.dat (.slice (.int .i64))) (.cons (.dat (.slice (.slice (.int .i64)))) .nil))) (.cons (.dat (.slice (.int .i64))) .nil))

noncomputable def I_im_Field_areWeights : List (Nat × OSh) := []

noncomputable def K_im_Field_areWeights : RetK := { acts := [], res := [.tmp 4], sh := (.cons (.dat .bool) .nil), obs := [], pins := [] }

noncomputable def D_im_Field_areWeights : FD where
  A := A_im_Field_areWeights
  ins := I_im_Field_areWeights
  lend := []
  R := Bool
  F := fun x => F_im_Field_areWeights x.1.1.1 x.1.1.2.1 x.1.2.1
  emb := fun r => ([.dat .bool r], [])

noncomputable def E_im_Field_areWeights : Env := envOf [(136, D_im_areBetween)]

noncomputable def Z_im_Field_areWeights : Nat → Nat → List Nat := fun _ _ => []

noncomputable def O_im_Field_areWeights : List (Nat × LD) := []

noncomputable def C_im_Field_areWeights : Code := (f120.body).getD .skip

/-! ### 194 (loop.example/g01110/impl.Field).server -/

noncomputable def S_im_Field_server_0 (k : (Int) × ((List (Int)) × ((Int) × ((List (Int)) × (List (List (Int))))))) (v : (Int) × (Int)) : Tr (((Int) × (Int)) ⊕ (Int)) :=
  .t (decide (v.2 < k.2.2.1))
    (.g (inR v.2 (List.length k.2.1)) <|
      .g (inR k.1 (List.length k.2.2.2.2)) <|
      .g (inR (List.getD k.2.1 (Int.toNat v.2) (0 : Int)) (List.length (List.getD k.2.2.2.2 (Int.toNat k.1) ([] : List (Int))))) <|
      .g (inR k.1 (List.length k.2.2.2.2)) <|
      .g (inR v.1 (List.length (List.getD k.2.2.2.2 (Int.toNat k.1) ([] : List (Int))))) <|
      .t (decide ((List.getD (List.getD k.2.2.2.2 (Int.toNat k.1) ([] : List (Int))) (Int.toNat (List.getD k.2.1 (Int.toNat v.2) (0 : Int))) (0 : Int)) < (List.getD (List.getD k.2.2.2.2 (Int.toNat k.1) ([] : List (Int))) (Int.toNat v.1) (0 : Int))))
        (.l (.inl ((List.getD k.2.1 (Int.toNat v.2) (0 : Int)), (IntKind.wrap .i64 (v.2 + (1 : Int))))))
        (.l (.inl (v.1, (IntKind.wrap .i64 (v.2 + (1 : Int)))))))
    (.l (.inr v.1))

noncomputable def L_im_Field_server_0 (k : (Int) × ((List (Int)) × ((Int) × ((List (Int)) × (List (List (Int))))))) (v : (Int) × (Int)) : Option (Int) := iter (fun v => (S_im_Field_server_0 k v).ev) v

noncomputable def DL_im_Field_server_0 : LD where
  head := { acts := [], S := { slots := [1, 3, 7, 13, 14, 15], sh := (.cons (.dat (.int .i64)) (.cons (.box 3 0) (.cons (.dat (.int .i64)) (.cons (.dat (.slice (.int .i64))) (.cons (.dat (.int .i64)) (.cons (.dat (.int .i64)) .nil)))))), obs := [(3, .cells (.cons (.dat (.slice (.int .i64))) (.cons (.dat (.slice (.slice (.int .i64)))) .nil)))] } }
  exits := [(0, { acts := [], S := { slots := [7], sh := (.cons (.dat (.int .i64)) .nil), obs := [] } })]
  rets := { acts := [], S := { slots := [], sh := .nil, obs := [] } }
  K := (Int) × ((List (Int)) × ((Int) × ((List (Int)) × (List (List (Int))))))
  V := (Int) × (Int)
  R := Int
  join := fun k v => ((k.1, ((), (v.1, (k.2.1, (k.2.2.1, (v.2, ())))))), ((k.2.2.2.1, (k.2.2.2.2, ())), ()))
  sk := fun t => (t.1.1, (t.1.2.2.2.1, (t.1.2.2.2.2.1, (t.2.1.1, t.2.1.2.1))))
  sv := fun t => (t.1.2.2.1, t.1.2.2.2.2.2.1)
  step := S_im_Field_server_0
  leaf := fun _ r => .l (.exit 0 (mkSt ({ slots := [7], sh := (.cons (.dat (.int .i64)) .nil), obs := [] }) ((r, ()), ())))

noncomputable def T_im_Field_server (a1_ : List (Int)) (a2_ : List (List (Int))) (a3_ : Int) (a4_ : List (Int)) : Tr (Int) :=
  .g (inR (0 : Int) (List.length a4_)) <|
  .c (Int) (L_im_Field_server_0 (a3_, (a4_, (((List.length a4_ : Nat) : Int), (a1_, a2_)))) ((List.getD a4_ (Int.toNat (0 : Int)) (0 : Int)), (0 : Int))) fun r9_ =>
  .l r9_

noncomputable def F_im_Field_server (a1_ : List (Int)) (a2_ : List (List (Int))) (a3_ : Int) (a4_ : List (Int)) : Option (Int) := (T_im_Field_server a1_ a2_ a3_ a4_).ev

noncomputable def A_im_Field_server : Sh := (.cons (.agg (.cons (.dat (.slice (.int .i64))) (.cons (.dat (.slice (.slice (.int .i64)))) .nil))) (.cons (.dat (.int .i64)) (.cons (.dat (.slice (.int .i64))) .nil)))

noncomputable def I_im_Field_server : List (Nat × OSh) := []

noncomputable def K_im_Field_server : RetK := { acts := [], res := [.tmp 6], sh := (.cons (.dat (.int .i64)) .nil), obs := [], pins := [] }

noncomputable def D_im_Field_server : FD where
  A := A_im_Field_server
  ins := I_im_Field_server
  lend := []
  R := Int
  F := fun x => F_im_Field_server x.1.1.1 x.1.1.2.1 x.1.2.1 x.1.2.2.1
  emb := fun r => ([.dat (.int .i64) r], [])

noncomputable def E_im_Field_server : Env := envOf []

noncomputable def Z_im_Field_server : Nat → Nat → List Nat := fun _ _ => []

noncomputable def O_im_Field_server : List (Nat × LD) := [(0, DL_im_Field_server_0)]

noncomputable def C_im_Field_server : Code := (f194.body).getD .skip

/-! ### 186 (loop.example/g01110/impl.Field).served -/

noncomputable def S_im_Field_served_0 (k : (List (Int)) × ((Int) × ((List (Int)) × (List (List (Int)))))) (v : (Int) × (List (Int))) : Tr (((Int) × (List (Int))) ⊕ (List (Int))) :=
  .t (decide (v.1 < k.2.1))
    (.c (Int) (F_im_Field_server k.2.2.1 k.2.2.2 v.1 k.1) fun r7_ =>
      .g (decide ((List.length v.2 + List.length ([r7_] : List (Int))) * 8 ≤ 140737488355328)) <|
      .l (.inl ((IntKind.wrap .i64 (v.1 + (1 : Int))), (v.2 ++ ([r7_] : List (Int))))))
    (.l (.inr v.2))

noncomputable def L_im_Field_served_0 (k : (List (Int)) × ((Int) × ((List (Int)) × (List (List (Int)))))) (v : (Int) × (List (Int))) : Option (List (Int)) := iter (fun v => (S_im_Field_served_0 k v).ev) v

noncomputable def DL_im_Field_served_0 : LD where
  head := { acts := [], S := { slots := [1, 2, 5, 10, 11], sh := (.cons (.dat (.slice (.int .i64))) (.cons (.box 2 0) (.cons (.arr 7) (.cons (.dat (.int .i64)) (.cons (.dat (.int .i64)) .nil))))), obs := [(2, .cells (.cons (.dat (.slice (.int .i64))) (.cons (.dat (.slice (.slice (.int .i64)))) .nil))), (7, .arr 3 (.int .i64))] } }
  exits := [(0, { acts := [], S := { slots := [5], sh := (.cons (.arr 7) .nil), obs := [(7, .arr 3 (.int .i64))] } })]
  rets := { acts := [], S := { slots := [], sh := .nil, obs := [] } }
  K := (List (Int)) × ((Int) × ((List (Int)) × (List (List (Int)))))
  V := (Int) × (List (Int))
  R := List (Int)
  join := fun k v => ((k.1, ((), ((), (k.2.1, (v.1, ()))))), ((k.2.2.1, (k.2.2.2, ())), (v.2, ())))
  sk := fun t => (t.1.1, (t.1.2.2.2.1, (t.2.1.1, t.2.1.2.1)))
  sv := fun t => (t.1.2.2.2.2.1, t.2.2.1)
  step := S_im_Field_served_0
  leaf := fun _ r => .l (.exit 0 (mkSt ({ slots := [5], sh := (.cons (.arr 7) .nil), obs := [(7, .arr 3 (.int .i64))] }) (((), ()), (r, ()))))

noncomputable def T_im_Field_served (a1_ : List (Int)) (a2_ : List (List (Int))) (a3_ : List (Int)) : Tr (List (Int)) :=
  .c (List (Int)) (L_im_Field_served_0 (a3_, (((List.length a2_ : Nat) : Int), (a1_, a2_))) ((0 : Int), ([] : List (Int)))) fun r9_ =>
  .l r9_

noncomputable def F_im_Field_served (a1_ : List (Int)) (a2_ : List (List (Int))) (a3_ : List (Int)) : Option (List (Int)) := (T_im_Field_served a1_ a2_ a3_).ev

noncomputable def A_im_Field_served : Sh := (.cons (.agg (.cons (.dat (.slice (.int .i64))) (.cons (.dat (.slice (.slice (.int .i64)))) .nil))) (.cons (.dat (.slice (.int .i64))) .nil))

noncomputable def I_im_Field_served : List (Nat × OSh) := []

noncomputable def K_im_Field_served : RetK := { acts := [.ren 7 0], res := [.tmp 4], sh := (.cons (.arr 0) .nil), obs := [(0, .arr 3 (.int .i64))], pins := [] }

noncomputable def D_im_Field_served : FD where
  A := A_im_Field_served
  ins := I_im_Field_served
  lend := []
  R := List (Int)
  F := fun x => F_im_Field_served x.1.1.1 x.1.1.2.1 x.1.2.1
  emb := fun r => ([.arr 0], [(0, .arr 3 (.int .i64) r)])

noncomputable def E_im_Field_served : Env := envOf [(194, D_im_Field_server)]

noncomputable def Z_im_Field_served : Nat → Nat → List Nat := fun _ _ => []

noncomputable def O_im_Field_served : List (Nat × LD) := [(0, DL_im_Field_served_0)]

noncomputable def C_im_Field_served : Code := (f186.body).getD .skip

/-! ### 165 (loop.example/g01110/impl.Field).lengths -/

noncomputable def S_im_Field_lengths_0 (k : (Int) × ((List (Int)) × ((List (List (Int))) × (List (Int))))) (v : (Int) × (List (Int))) : Tr (((Int) × (List (Int))) ⊕ (List (Int))) :=
  .t (decide (v.1 < k.1))
    (.g (inR v.1 (List.length k.2.2.2)) <|
      .g (decide ((Int.toNat v.1) < List.length k.2.2.2)) <|
      .g (inR v.1 (List.length k.2.2.1)) <|
      .g (inR (List.getD k.2.2.2 (Int.toNat v.1) (0 : Int)) (List.length (List.getD k.2.2.1 (Int.toNat v.1) ([] : List (Int))))) <|
      .g (decide ((List.length v.2 + List.length ([(List.getD (List.getD k.2.2.1 (Int.toNat v.1) ([] : List (Int))) (Int.toNat (List.getD k.2.2.2 (Int.toNat v.1) (0 : Int))) (0 : Int))] : List (Int))) * 8 ≤ 140737488355328)) <|
      .l (.inl ((IntKind.wrap .i64 (v.1 + (1 : Int))), (v.2 ++ ([(List.getD (List.getD k.2.2.1 (Int.toNat v.1) ([] : List (Int))) (Int.toNat (List.getD k.2.2.2 (Int.toNat v.1) (0 : Int))) (0 : Int))] : List (Int))))))
    (.l (.inr v.2))

noncomputable def L_im_Field_lengths_0 (k : (Int) × ((List (Int)) × ((List (List (Int))) × (List (Int))))) (v : (Int) × (List (Int))) : Option (List (Int)) := iter (fun v => (S_im_Field_lengths_0 k v).ev) v

noncomputable def DL_im_Field_lengths_0 : LD where
  head := { acts := [], S := { slots := [2, 5, 11, 12, 13], sh := (.cons (.box 2 0) (.cons (.arr 8) (.cons (.arr 704) (.cons (.dat (.int .i64)) (.cons (.dat (.int .i64)) .nil))))), obs := [(2, .cells (.cons (.dat (.slice (.int .i64))) (.cons (.dat (.slice (.slice (.int .i64)))) .nil))), (8, .arr 3 (.int .i64)), (704, .arr 3 (.int .i64))] } }
  exits := [(0, { acts := [], S := { slots := [5], sh := (.cons (.arr 8) .nil), obs := [(8, .arr 3 (.int .i64))] } })]
  rets := { acts := [], S := { slots := [], sh := .nil, obs := [] } }
  K := (Int) × ((List (Int)) × ((List (List (Int))) × (List (Int))))
  V := (Int) × (List (Int))
  R := List (Int)
  join := fun k v => (((), ((), ((), (k.1, (v.1, ()))))), ((k.2.1, (k.2.2.1, ())), (v.2, (k.2.2.2, ()))))
  sk := fun t => (t.1.2.2.2.1, (t.2.1.1, (t.2.1.2.1, t.2.2.2.1)))
  sv := fun t => (t.1.2.2.2.2.1, t.2.2.1)
  step := S_im_Field_lengths_0
  leaf := fun _ r => .l (.exit 0 (mkSt ({ slots := [5], sh := (.cons (.arr 8) .nil), obs := [(8, .arr 3 (.int .i64))] }) (((), ()), (r, ()))))

noncomputable def T_im_Field_lengths (a1_ : List (Int)) (a2_ : List (List (Int))) (a3_ : List (Int)) : Tr (List (Int)) :=
  .c (List (Int)) (F_im_Field_served a1_ a2_ a3_) fun r1_ =>
  .c (List (Int)) (L_im_Field_lengths_0 (((List.length r1_ : Nat) : Int), (a1_, (a2_, r1_))) ((0 : Int), ([] : List (Int)))) fun r9_ =>
  .l r9_

noncomputable def F_im_Field_lengths (a1_ : List (Int)) (a2_ : List (List (Int))) (a3_ : List (Int)) : Option (List (Int)) := (T_im_Field_lengths a1_ a2_ a3_).ev

noncomputable def A_im_Field_lengths : Sh := (.cons (.agg (.cons (.dat (.slice (.int .i64))) (.cons (.dat (.slice (.slice (.int .i64)))) .nil))) (.cons (.dat (.slice (.int .i64))) .nil))

noncomputable def I_im_Field_lengths : List (Nat × OSh) := []

noncomputable def K_im_Field_lengths : RetK := { acts := [.ren 8 0], res := [.tmp 4], sh := (.cons (.arr 0) .nil), obs := [(0, .arr 3 (.int .i64))], pins := [] }

noncomputable def D_im_Field_lengths : FD where
  A := A_im_Field_lengths
  ins := I_im_Field_lengths
  lend := []
  R := List (Int)
  F := fun x => F_im_Field_lengths x.1.1.1 x.1.1.2.1 x.1.2.1
  emb := fun r => ([.arr 0], [(0, .arr 3 (.int .i64) r)])

noncomputable def E_im_Field_lengths : Env := envOf [(186, D_im_Field_served)]

noncomputable def Z_im_Field_lengths : Nat → Nat → List Nat := fun _ _ => []

noncomputable def O_im_Field_lengths : List (Nat × LD) := [(0, DL_im_Field_lengths_0)]

noncomputable def C_im_Field_lengths : Code := (f165.body).getD .skip

/-! ### 205 math/bits.Len64 -/

noncomputable def T_math_bits_Len64 (a1_ : Int) : Tr (Int) :=
  .t (decide ((4294967296 : Int) ≤ a1_))
    (.g (decide ((0 : Int) ≤ (32 : Int))) <|
      .t (decide ((65536 : Int) ≤ (Int.fdiv a1_ (2 ^ (min (Int.toNat (32 : Int)) (IntKind.bits .u64))))))
        (.g (decide ((0 : Int) ≤ (16 : Int))) <|
          .t (decide ((256 : Int) ≤ (Int.fdiv (Int.fdiv a1_ (2 ^ (min (Int.toNat (32 : Int)) (IntKind.bits .u64)))) (2 ^ (min (Int.toNat (16 : Int)) (IntKind.bits .u64))))))
            (.g (decide ((0 : Int) ≤ (8 : Int))) <|
              .g (inR (IntKind.wrap .u8 (Int.fdiv (Int.fdiv (Int.fdiv a1_ (2 ^ (min (Int.toNat (32 : Int)) (IntKind.bits .u64)))) (2 ^ (min (Int.toNat (16 : Int)) (IntKind.bits .u64)))) (2 ^ (min (Int.toNat (8 : Int)) (IntKind.bits .u64))))) (List.length ([0, 1, 2, 2, 3, 3, 3, 3, 4, 4, 4, 4, 4, 4, 4, 4, 5, 5, 5, 5, 5, 5, 5, 5, 5, 5, 5, 5, 5, 5, 5, 5, 6, 6, 6, 6, 6, 6, 6, 6, 6, 6, 6, 6, 6, 6, 6, 6, 6, 6, 6, 6, 6, 6, 6, 6, 6, 6, 6, 6, 6, 6, 6, 6, 7, 7, 7, 7, 7, 7, 7, 7, 7, 7, 7, 7, 7, 7, 7, 7, 7, 7, 7, 7, 7, 7, 7, 7, 7, 7, 7, 7, 7, 7, 7, 7, 7, 7, 7, 7, 7, 7, 7, 7, 7, 7, 7, 7, 7, 7, 7, 7, 7, 7, 7, 7, 7, 7, 7, 7, 7, 7, 7, 7, 7, 7, 7, 7, 8, 8, 8, 8, 8, 8, 8, 8, 8, 8, 8, 8, 8, 8, 8, 8, 8, 8, 8, 8, 8, 8, 8, 8, 8, 8, 8, 8, 8, 8, 8, 8, 8, 8, 8, 8, 8, 8, 8, 8, 8, 8, 8, 8, 8, 8, 8, 8, 8, 8, 8, 8, 8, 8, 8, 8, 8, 8, 8, 8, 8, 8, 8, 8, 8, 8, 8, 8, 8, 8, 8, 8, 8, 8, 8, 8, 8, 8, 8, 8, 8, 8, 8, 8, 8, 8, 8, 8, 8, 8, 8, 8, 8, 8, 8, 8, 8, 8, 8, 8, 8, 8, 8, 8, 8, 8, 8, 8, 8, 8, 8, 8, 8, 8, 8, 8, 8, 8, 8, 8, 8, 8, 8, 8, 8, 8, 8, 8] : List UInt8))) <|
              .l (IntKind.wrap .i64 ((IntKind.wrap .i64 ((IntKind.wrap .i64 ((32 : Int) + (16 : Int))) + (8 : Int))) + (IntKind.wrap .i64 ((UInt8.toNat (List.getD ([0, 1, 2, 2, 3, 3, 3, 3, 4, 4, 4, 4, 4, 4, 4, 4, 5, 5, 5, 5, 5, 5, 5, 5, 5, 5, 5, 5, 5, 5, 5, 5, 6, 6, 6, 6, 6, 6, 6, 6, 6, 6, 6, 6, 6, 6, 6, 6, 6, 6, 6, 6, 6, 6, 6, 6, 6, 6, 6, 6, 6, 6, 6, 6, 7, 7, 7, 7, 7, 7, 7, 7, 7, 7, 7, 7, 7, 7, 7, 7, 7, 7, 7, 7, 7, 7, 7, 7, 7, 7, 7, 7, 7, 7, 7, 7, 7, 7, 7, 7, 7, 7, 7, 7, 7, 7, 7, 7, 7, 7, 7, 7, 7, 7, 7, 7, 7, 7, 7, 7, 7, 7, 7, 7, 7, 7, 7, 7, 8, 8, 8, 8, 8, 8, 8, 8, 8, 8, 8, 8, 8, 8, 8, 8, 8, 8, 8, 8, 8, 8, 8, 8, 8, 8, 8, 8, 8, 8, 8, 8, 8, 8, 8, 8, 8, 8, 8, 8, 8, 8, 8, 8, 8, 8, 8, 8, 8, 8, 8, 8, 8, 8, 8, 8, 8, 8, 8, 8, 8, 8, 8, 8, 8, 8, 8, 8, 8, 8, 8, 8, 8, 8, 8, 8, 8, 8, 8, 8, 8, 8, 8, 8, 8, 8, 8, 8, 8, 8, 8, 8, 8, 8, 8, 8, 8, 8, 8, 8, 8, 8, 8, 8, 8, 8, 8, 8, 8, 8, 8, 8, 8, 8, 8, 8, 8, 8, 8, 8, 8, 8, 8, 8, 8, 8, 8, 8] : List UInt8) (Int.toNat (IntKind.wrap .u8 (Int.fdiv (Int.fdiv (Int.fdiv a1_ (2 ^ (min (Int.toNat (32 : Int)) (IntKind.bits .u64)))) (2 ^ (min (Int.toNat (16 : Int)) (IntKind.bits .u64)))) (2 ^ (min (Int.toNat (8 : Int)) (IntKind.bits .u64)))))) 0) : Nat) : Int)))))
            (.g (inR (IntKind.wrap .u8 (Int.fdiv (Int.fdiv a1_ (2 ^ (min (Int.toNat (32 : Int)) (IntKind.bits .u64)))) (2 ^ (min (Int.toNat (16 : Int)) (IntKind.bits .u64))))) (List.length ([0, 1, 2, 2, 3, 3, 3, 3, 4, 4, 4, 4, 4, 4, 4, 4, 5, 5, 5, 5, 5, 5, 5, 5, 5, 5, 5, 5, 5, 5, 5, 5, 6, 6, 6, 6, 6, 6, 6, 6, 6, 6, 6, 6, 6, 6, 6, 6, 6, 6, 6, 6, 6, 6, 6, 6, 6, 6, 6, 6, 6, 6, 6, 6, 7, 7, 7, 7, 7, 7, 7, 7, 7, 7, 7, 7, 7, 7, 7, 7, 7, 7, 7, 7, 7, 7, 7, 7, 7, 7, 7, 7, 7, 7, 7, 7, 7, 7, 7, 7, 7, 7, 7, 7, 7, 7, 7, 7, 7, 7, 7, 7, 7, 7, 7, 7, 7, 7, 7, 7, 7, 7, 7, 7, 7, 7, 7, 7, 8, 8, 8, 8, 8, 8, 8, 8, 8, 8, 8, 8, 8, 8, 8, 8, 8, 8, 8, 8, 8, 8, 8, 8, 8, 8, 8, 8, 8, 8, 8, 8, 8, 8, 8, 8, 8, 8, 8, 8, 8, 8, 8, 8, 8, 8, 8, 8, 8, 8, 8, 8, 8, 8, 8, 8, 8, 8, 8, 8, 8, 8, 8, 8, 8, 8, 8, 8, 8, 8, 8, 8, 8, 8, 8, 8, 8, 8, 8, 8, 8, 8, 8, 8, 8, 8, 8, 8, 8, 8, 8, 8, 8, 8, 8, 8, 8, 8, 8, 8, 8, 8, 8, 8, 8, 8, 8, 8, 8, 8, 8, 8, 8, 8, 8, 8, 8, 8, 8, 8, 8, 8, 8, 8, 8, 8, 8, 8] : List UInt8))) <|
              .l (IntKind.wrap .i64 ((IntKind.wrap .i64 ((32 : Int) + (16 : Int))) + (IntKind.wrap .i64 ((UInt8.toNat (List.getD ([0, 1, 2, 2, 3, 3, 3, 3, 4, 4, 4, 4, 4, 4, 4, 4, 5, 5, 5, 5, 5, 5, 5, 5, 5, 5, 5, 5, 5, 5, 5, 5, 6, 6, 6, 6, 6, 6, 6, 6, 6, 6, 6, 6, 6, 6, 6, 6, 6, 6, 6, 6, 6, 6, 6, 6, 6, 6, 6, 6, 6, 6, 6, 6, 7, 7, 7, 7, 7, 7, 7, 7, 7, 7, 7, 7, 7, 7, 7, 7, 7, 7, 7, 7, 7, 7, 7, 7, 7, 7, 7, 7, 7, 7, 7, 7, 7, 7, 7, 7, 7, 7, 7, 7, 7, 7, 7, 7, 7, 7, 7, 7, 7, 7, 7, 7, 7, 7, 7, 7, 7, 7, 7, 7, 7, 7, 7, 7, 8, 8, 8, 8, 8, 8, 8, 8, 8, 8, 8, 8, 8, 8, 8, 8, 8, 8, 8, 8, 8, 8, 8, 8, 8, 8, 8, 8, 8, 8, 8, 8, 8, 8, 8, 8, 8, 8, 8, 8, 8, 8, 8, 8, 8, 8, 8, 8, 8, 8, 8, 8, 8, 8, 8, 8, 8, 8, 8, 8, 8, 8, 8, 8, 8, 8, 8, 8, 8, 8, 8, 8, 8, 8, 8, 8, 8, 8, 8, 8, 8, 8, 8, 8, 8, 8, 8, 8, 8, 8, 8, 8, 8, 8, 8, 8, 8, 8, 8, 8, 8, 8, 8, 8, 8, 8, 8, 8, 8, 8, 8, 8, 8, 8, 8, 8, 8, 8, 8, 8, 8, 8, 8, 8, 8, 8, 8, 8] : List UInt8) (Int.toNat (IntKind.wrap .u8 (Int.fdiv (Int.fdiv a1_ (2 ^ (min (Int.toNat (32 : Int)) (IntKind.bits .u64)))) (2 ^ (min (Int.toNat (16 : Int)) (IntKind.bits .u64)))))) 0) : Nat) : Int))))))
        (.t (decide ((256 : Int) ≤ (Int.fdiv a1_ (2 ^ (min (Int.toNat (32 : Int)) (IntKind.bits .u64))))))
            (.g (decide ((0 : Int) ≤ (8 : Int))) <|
              .g (inR (IntKind.wrap .u8 (Int.fdiv (Int.fdiv a1_ (2 ^ (min (Int.toNat (32 : Int)) (IntKind.bits .u64)))) (2 ^ (min (Int.toNat (8 : Int)) (IntKind.bits .u64))))) (List.length ([0, 1, 2, 2, 3, 3, 3, 3, 4, 4, 4, 4, 4, 4, 4, 4, 5, 5, 5, 5, 5, 5, 5, 5, 5, 5, 5, 5, 5, 5, 5, 5, 6, 6, 6, 6, 6, 6, 6, 6, 6, 6, 6, 6, 6, 6, 6, 6, 6, 6, 6, 6, 6, 6, 6, 6, 6, 6, 6, 6, 6, 6, 6, 6, 7, 7, 7, 7, 7, 7, 7, 7, 7, 7, 7, 7, 7, 7, 7, 7, 7, 7, 7, 7, 7, 7, 7, 7, 7, 7, 7, 7, 7, 7, 7, 7, 7, 7, 7, 7, 7, 7, 7, 7, 7, 7, 7, 7, 7, 7, 7, 7, 7, 7, 7, 7, 7, 7, 7, 7, 7, 7, 7, 7, 7, 7, 7, 7, 8, 8, 8, 8, 8, 8, 8, 8, 8, 8, 8, 8, 8, 8, 8, 8, 8, 8, 8, 8, 8, 8, 8, 8, 8, 8, 8, 8, 8, 8, 8, 8, 8, 8, 8, 8, 8, 8, 8, 8, 8, 8, 8, 8, 8, 8, 8, 8, 8, 8, 8, 8, 8, 8, 8, 8, 8, 8, 8, 8, 8, 8, 8, 8, 8, 8, 8, 8, 8, 8, 8, 8, 8, 8, 8, 8, 8, 8, 8, 8, 8, 8, 8, 8, 8, 8, 8, 8, 8, 8, 8, 8, 8, 8, 8, 8, 8, 8, 8, 8, 8, 8, 8, 8, 8, 8, 8, 8, 8, 8, 8, 8, 8, 8, 8, 8, 8, 8, 8, 8, 8, 8, 8, 8, 8, 8, 8, 8] : List UInt8))) <|
              .l (IntKind.wrap .i64 ((IntKind.wrap .i64 ((32 : Int) + (8 : Int))) + (IntKind.wrap .i64 ((UInt8.toNat (List.getD ([0, 1, 2, 2, 3, 3, 3, 3, 4, 4, 4, 4, 4, 4, 4, 4, 5, 5, 5, 5, 5, 5, 5, 5, 5, 5, 5, 5, 5, 5, 5, 5, 6, 6, 6, 6, 6, 6, 6, 6, 6, 6, 6, 6, 6, 6, 6, 6, 6, 6, 6, 6, 6, 6, 6, 6, 6, 6, 6, 6, 6, 6, 6, 6, 7, 7, 7, 7, 7, 7, 7, 7, 7, 7, 7, 7, 7, 7, 7, 7, 7, 7, 7, 7, 7, 7, 7, 7, 7, 7, 7, 7, 7, 7, 7, 7, 7, 7, 7, 7, 7, 7, 7, 7, 7, 7, 7, 7, 7, 7, 7, 7, 7, 7, 7, 7, 7, 7, 7, 7, 7, 7, 7, 7, 7, 7, 7, 7, 8, 8, 8, 8, 8, 8, 8, 8, 8, 8, 8, 8, 8, 8, 8, 8, 8, 8, 8, 8, 8, 8, 8, 8, 8, 8, 8, 8, 8, 8, 8, 8, 8, 8, 8, 8, 8, 8, 8, 8, 8, 8, 8, 8, 8, 8, 8, 8, 8, 8, 8, 8, 8, 8, 8, 8, 8, 8, 8, 8, 8, 8, 8, 8, 8, 8, 8, 8, 8, 8, 8, 8, 8, 8, 8, 8, 8, 8, 8, 8, 8, 8, 8, 8, 8, 8, 8, 8, 8, 8, 8, 8, 8, 8, 8, 8, 8, 8, 8, 8, 8, 8, 8, 8, 8, 8, 8, 8, 8, 8, 8, 8, 8, 8, 8, 8, 8, 8, 8, 8, 8, 8, 8, 8, 8, 8, 8, 8] : List UInt8) (Int.toNat (IntKind.wrap .u8 (Int.fdiv (Int.fdiv a1_ (2 ^ (min (Int.toNat (32 : Int)) (IntKind.bits .u64)))) (2 ^ (min (Int.toNat (8 : Int)) (IntKind.bits .u64)))))) 0) : Nat) : Int)))))
            (.g (inR (IntKind.wrap .u8 (Int.fdiv a1_ (2 ^ (min (Int.toNat (32 : Int)) (IntKind.bits .u64))))) (List.length ([0, 1, 2, 2, 3, 3, 3, 3, 4, 4, 4, 4, 4, 4, 4, 4, 5, 5, 5, 5, 5, 5, 5, 5, 5, 5, 5, 5, 5, 5, 5, 5, 6, 6, 6, 6, 6, 6, 6, 6, 6, 6, 6, 6, 6, 6, 6, 6, 6, 6, 6, 6, 6, 6, 6, 6, 6, 6, 6, 6, 6, 6, 6, 6, 7, 7, 7, 7, 7, 7, 7, 7, 7, 7, 7, 7, 7, 7, 7, 7, 7, 7, 7, 7, 7, 7, 7, 7, 7, 7, 7, 7, 7, 7, 7, 7, 7, 7, 7, 7, 7, 7, 7, 7, 7, 7, 7, 7, 7, 7, 7, 7, 7, 7, 7, 7, 7, 7, 7, 7, 7, 7, 7, 7, 7, 7, 7, 7, 8, 8, 8, 8, 8, 8, 8, 8, 8, 8, 8, 8, 8, 8, 8, 8, 8, 8, 8, 8, 8, 8, 8, 8, 8, 8, 8, 8, 8, 8, 8, 8, 8, 8, 8, 8, 8, 8, 8, 8, 8, 8, 8, 8, 8, 8, 8, 8, 8, 8, 8, 8, 8, 8, 8, 8, 8, 8, 8, 8, 8, 8, 8, 8, 8, 8, 8, 8, 8, 8, 8, 8, 8, 8, 8, 8, 8, 8, 8, 8, 8, 8, 8, 8, 8, 8, 8, 8, 8, 8, 8, 8, 8, 8, 8, 8, 8, 8, 8, 8, 8, 8, 8, 8, 8, 8, 8, 8, 8, 8, 8, 8, 8, 8, 8, 8, 8, 8, 8, 8, 8, 8, 8, 8, 8, 8, 8, 8] : List UInt8))) <|
              .l (IntKind.wrap .i64 ((32 : Int) + (IntKind.wrap .i64 ((UInt8.toNat (List.getD ([0, 1, 2, 2, 3, 3, 3, 3, 4, 4, 4, 4, 4, 4, 4, 4, 5, 5, 5, 5, 5, 5, 5, 5, 5, 5, 5, 5, 5, 5, 5, 5, 6, 6, 6, 6, 6, 6, 6, 6, 6, 6, 6, 6, 6, 6, 6, 6, 6, 6, 6, 6, 6, 6, 6, 6, 6, 6, 6, 6, 6, 6, 6, 6, 7, 7, 7, 7, 7, 7, 7, 7, 7, 7, 7, 7, 7, 7, 7, 7, 7, 7, 7, 7, 7, 7, 7, 7, 7, 7, 7, 7, 7, 7, 7, 7, 7, 7, 7, 7, 7, 7, 7, 7, 7, 7, 7, 7, 7, 7, 7, 7, 7, 7, 7, 7, 7, 7, 7, 7, 7, 7, 7, 7, 7, 7, 7, 7, 8, 8, 8, 8, 8, 8, 8, 8, 8, 8, 8, 8, 8, 8, 8, 8, 8, 8, 8, 8, 8, 8, 8, 8, 8, 8, 8, 8, 8, 8, 8, 8, 8, 8, 8, 8, 8, 8, 8, 8, 8, 8, 8, 8, 8, 8, 8, 8, 8, 8, 8, 8, 8, 8, 8, 8, 8, 8, 8, 8, 8, 8, 8, 8, 8, 8, 8, 8, 8, 8, 8, 8, 8, 8, 8, 8, 8, 8, 8, 8, 8, 8, 8, 8, 8, 8, 8, 8, 8, 8, 8, 8, 8, 8, 8, 8, 8, 8, 8, 8, 8, 8, 8, 8, 8, 8, 8, 8, 8, 8, 8, 8, 8, 8, 8, 8, 8, 8, 8, 8, 8, 8, 8, 8, 8, 8, 8, 8] : List UInt8) (Int.toNat (IntKind.wrap .u8 (Int.fdiv a1_ (2 ^ (min (Int.toNat (32 : Int)) (IntKind.bits .u64)))))) 0) : Nat) : Int)))))))
    (.t (decide ((65536 : Int) ≤ a1_))
        (.g (decide ((0 : Int) ≤ (16 : Int))) <|
          .t (decide ((256 : Int) ≤ (Int.fdiv a1_ (2 ^ (min (Int.toNat (16 : Int)) (IntKind.bits .u64))))))
            (.g (decide ((0 : Int) ≤ (8 : Int))) <|
              .g (inR (IntKind.wrap .u8 (Int.fdiv (Int.fdiv a1_ (2 ^ (min (Int.toNat (16 : Int)) (IntKind.bits .u64)))) (2 ^ (min (Int.toNat (8 : Int)) (IntKind.bits .u64))))) (List.length ([0, 1, 2, 2, 3, 3, 3, 3, 4, 4, 4, 4, 4, 4, 4, 4, 5, 5, 5, 5, 5, 5, 5, 5, 5, 5, 5, 5, 5, 5, 5, 5, 6, 6, 6, 6, 6, 6, 6, 6, 6, 6, 6, 6, 6, 6, 6, 6, 6, 6, 6, 6, 6, 6, 6, 6, 6, 6, 6, 6, 6, 6, 6, 6, 7, 7, 7, 7, 7, 7, 7, 7, 7, 7, 7, 7, 7, 7, 7, 7, 7, 7, 7, 7, 7, 7, 7, 7, 7, 7, 7, 7, 7, 7, 7, 7, 7, 7, 7, 7, 7, 7, 7, 7, 7, 7, 7, 7, 7, 7, 7, 7, 7, 7, 7, 7, 7, 7, 7, 7, 7, 7, 7, 7, 7, 7, 7, 7, 8, 8, 8, 8, 8, 8, 8, 8, 8, 8, 8, 8, 8, 8, 8, 8, 8, 8, 8, 8, 8, 8, 8, 8, 8, 8, 8, 8, 8, 8, 8, 8, 8, 8, 8, 8, 8, 8, 8, 8, 8, 8, 8, 8, 8, 8, 8, 8, 8, 8, 8, 8, 8, 8, 8, 8, 8, 8, 8, 8, 8, 8, 8, 8, 8, 8, 8, 8, 8, 8, 8, 8, 8, 8, 8, 8, 8, 8, 8, 8, 8, 8, 8, 8, 8, 8, 8, 8, 8, 8, 8, 8, 8, 8, 8, 8, 8, 8, 8, 8, 8, 8, 8, 8, 8, 8, 8, 8, 8, 8, 8, 8, 8, 8, 8, 8, 8, 8, 8, 8, 8, 8, 8, 8, 8, 8, 8, 8] : List UInt8))) <|
              .l (IntKind.wrap .i64 ((IntKind.wrap .i64 ((IntKind.wrap .i64 ((0 : Int) + (16 : Int))) + (8 : Int))) + (IntKind.wrap .i64 ((UInt8.toNat (List.getD ([0, 1, 2, 2, 3, 3, 3, 3, 4, 4, 4, 4, 4, 4, 4, 4, 5, 5, 5, 5, 5, 5, 5, 5, 5, 5, 5, 5, 5, 5, 5, 5, 6, 6, 6, 6, 6, 6, 6, 6, 6, 6, 6, 6, 6, 6, 6, 6, 6, 6, 6, 6, 6, 6, 6, 6, 6, 6, 6, 6, 6, 6, 6, 6, 7, 7, 7, 7, 7, 7, 7, 7, 7, 7, 7, 7, 7, 7, 7, 7, 7, 7, 7, 7, 7, 7, 7, 7, 7, 7, 7, 7, 7, 7, 7, 7, 7, 7, 7, 7, 7, 7, 7, 7, 7, 7, 7, 7, 7, 7, 7, 7, 7, 7, 7, 7, 7, 7, 7, 7, 7, 7, 7, 7, 7, 7, 7, 7, 8, 8, 8, 8, 8, 8, 8, 8, 8, 8, 8, 8, 8, 8, 8, 8, 8, 8, 8, 8, 8, 8, 8, 8, 8, 8, 8, 8, 8, 8, 8, 8, 8, 8, 8, 8, 8, 8, 8, 8, 8, 8, 8, 8, 8, 8, 8, 8, 8, 8, 8, 8, 8, 8, 8, 8, 8, 8, 8, 8, 8, 8, 8, 8, 8, 8, 8, 8, 8, 8, 8, 8, 8, 8, 8, 8, 8, 8, 8, 8, 8, 8, 8, 8, 8, 8, 8, 8, 8, 8, 8, 8, 8, 8, 8, 8, 8, 8, 8, 8, 8, 8, 8, 8, 8, 8, 8, 8, 8, 8, 8, 8, 8, 8, 8, 8, 8, 8, 8, 8, 8, 8, 8, 8, 8, 8, 8, 8] : List UInt8) (Int.toNat (IntKind.wrap .u8 (Int.fdiv (Int.fdiv a1_ (2 ^ (min (Int.toNat (16 : Int)) (IntKind.bits .u64)))) (2 ^ (min (Int.toNat (8 : Int)) (IntKind.bits .u64)))))) 0) : Nat) : Int)))))
            (.g (inR (IntKind.wrap .u8 (Int.fdiv a1_ (2 ^ (min (Int.toNat (16 : Int)) (IntKind.bits .u64))))) (List.length ([0, 1, 2, 2, 3, 3, 3, 3, 4, 4, 4, 4, 4, 4, 4, 4, 5, 5, 5, 5, 5, 5, 5, 5, 5, 5, 5, 5, 5, 5, 5, 5, 6, 6, 6, 6, 6, 6, 6, 6, 6, 6, 6, 6, 6, 6, 6, 6, 6, 6, 6, 6, 6, 6, 6, 6, 6, 6, 6, 6, 6, 6, 6, 6, 7, 7, 7, 7, 7, 7, 7, 7, 7, 7, 7, 7, 7, 7, 7, 7, 7, 7, 7, 7, 7, 7, 7, 7, 7, 7, 7, 7, 7, 7, 7, 7, 7, 7, 7, 7, 7, 7, 7, 7, 7, 7, 7, 7, 7, 7, 7, 7, 7, 7, 7, 7, 7, 7, 7, 7, 7, 7, 7, 7, 7, 7, 7, 7, 8, 8, 8, 8, 8, 8, 8, 8, 8, 8, 8, 8, 8, 8, 8, 8, 8, 8, 8, 8, 8, 8, 8, 8, 8, 8, 8, 8, 8, 8, 8, 8, 8, 8, 8, 8, 8, 8, 8, 8, 8, 8, 8, 8, 8, 8, 8, 8, 8, 8, 8, 8, 8, 8, 8, 8, 8, 8, 8, 8, 8, 8, 8, 8, 8, 8, 8, 8, 8, 8, 8, 8, 8, 8, 8, 8, 8, 8, 8, 8, 8, 8, 8, 8, 8, 8, 8, 8, 8, 8, 8, 8, 8, 8, 8, 8, 8, 8, 8, 8, 8, 8, 8, 8, 8, 8, 8, 8, 8, 8, 8, 8, 8, 8, 8, 8, 8, 8, 8, 8, 8, 8, 8, 8, 8, 8, 8, 8] : List UInt8))) <|
              .l (IntKind.wrap .i64 ((IntKind.wrap .i64 ((0 : Int) + (16 : Int))) + (IntKind.wrap .i64 ((UInt8.toNat (List.getD ([0, 1, 2, 2, 3, 3, 3, 3, 4, 4, 4, 4, 4, 4, 4, 4, 5, 5, 5, 5, 5, 5, 5, 5, 5, 5, 5, 5, 5, 5, 5, 5, 6, 6, 6, 6, 6, 6, 6, 6, 6, 6, 6, 6, 6, 6, 6, 6, 6, 6, 6, 6, 6, 6, 6, 6, 6, 6, 6, 6, 6, 6, 6, 6, 7, 7, 7, 7, 7, 7, 7, 7, 7, 7, 7, 7, 7, 7, 7, 7, 7, 7, 7, 7, 7, 7, 7, 7, 7, 7, 7, 7, 7, 7, 7, 7, 7, 7, 7, 7, 7, 7, 7, 7, 7, 7, 7, 7, 7, 7, 7, 7, 7, 7, 7, 7, 7, 7, 7, 7, 7, 7, 7, 7, 7, 7, 7, 7, 8, 8, 8, 8, 8, 8, 8, 8, 8, 8, 8, 8, 8, 8, 8, 8, 8, 8, 8, 8, 8, 8, 8, 8, 8, 8, 8, 8, 8, 8, 8, 8, 8, 8, 8, 8, 8, 8, 8, 8, 8, 8, 8, 8, 8, 8, 8, 8, 8, 8, 8, 8, 8, 8, 8, 8, 8, 8, 8, 8, 8, 8, 8, 8, 8, 8, 8, 8, 8, 8, 8, 8, 8, 8, 8, 8, 8, 8, 8, 8, 8, 8, 8, 8, 8, 8, 8, 8, 8, 8, 8, 8, 8, 8, 8, 8, 8, 8, 8, 8, 8, 8, 8, 8, 8, 8, 8, 8, 8, 8, 8, 8, 8, 8, 8, 8, 8, 8, 8, 8, 8, 8, 8, 8, 8, 8, 8, 8] : List UInt8) (Int.toNat (IntKind.wrap .u8 (Int.fdiv a1_ (2 ^ (min (Int.toNat (16 : Int)) (IntKind.bits .u64)))))) 0) : Nat) : Int))))))
        (.t (decide ((256 : Int) ≤ a1_))
            (.g (decide ((0 : Int) ≤ (8 : Int))) <|
              .g (inR (IntKind.wrap .u8 (Int.fdiv a1_ (2 ^ (min (Int.toNat (8 : Int)) (IntKind.bits .u64))))) (List.length ([0, 1, 2, 2, 3, 3, 3, 3, 4, 4, 4, 4, 4, 4, 4, 4, 5, 5, 5, 5, 5, 5, 5, 5, 5, 5, 5, 5, 5, 5, 5, 5, 6, 6, 6, 6, 6, 6, 6, 6, 6, 6, 6, 6, 6, 6, 6, 6, 6, 6, 6, 6, 6, 6, 6, 6, 6, 6, 6, 6, 6, 6, 6, 6, 7, 7, 7, 7, 7, 7, 7, 7, 7, 7, 7, 7, 7, 7, 7, 7, 7, 7, 7, 7, 7, 7, 7, 7, 7, 7, 7, 7, 7, 7, 7, 7, 7, 7, 7, 7, 7, 7, 7, 7, 7, 7, 7, 7, 7, 7, 7, 7, 7, 7, 7, 7, 7, 7, 7, 7, 7, 7, 7, 7, 7, 7, 7, 7, 8, 8, 8, 8, 8, 8, 8, 8, 8, 8, 8, 8, 8, 8, 8, 8, 8, 8, 8, 8, 8, 8, 8, 8, 8, 8, 8, 8, 8, 8, 8, 8, 8, 8, 8, 8, 8, 8, 8, 8, 8, 8, 8, 8, 8, 8, 8, 8, 8, 8, 8, 8, 8, 8, 8, 8, 8, 8, 8, 8, 8, 8, 8, 8, 8, 8, 8, 8, 8, 8, 8, 8, 8, 8, 8, 8, 8, 8, 8, 8, 8, 8, 8, 8, 8, 8, 8, 8, 8, 8, 8, 8, 8, 8, 8, 8, 8, 8, 8, 8, 8, 8, 8, 8, 8, 8, 8, 8, 8, 8, 8, 8, 8, 8, 8, 8, 8, 8, 8, 8, 8, 8, 8, 8, 8, 8, 8, 8] : List UInt8))) <|
              .l (IntKind.wrap .i64 ((IntKind.wrap .i64 ((0 : Int) + (8 : Int))) + (IntKind.wrap .i64 ((UInt8.toNat (List.getD ([0, 1, 2, 2, 3, 3, 3, 3, 4, 4, 4, 4, 4, 4, 4, 4, 5, 5, 5, 5, 5, 5, 5, 5, 5, 5, 5, 5, 5, 5, 5, 5, 6, 6, 6, 6, 6, 6, 6, 6, 6, 6, 6, 6, 6, 6, 6, 6, 6, 6, 6, 6, 6, 6, 6, 6, 6, 6, 6, 6, 6, 6, 6, 6, 7, 7, 7, 7, 7, 7, 7, 7, 7, 7, 7, 7, 7, 7, 7, 7, 7, 7, 7, 7, 7, 7, 7, 7, 7, 7, 7, 7, 7, 7, 7, 7, 7, 7, 7, 7, 7, 7, 7, 7, 7, 7, 7, 7, 7, 7, 7, 7, 7, 7, 7, 7, 7, 7, 7, 7, 7, 7, 7, 7, 7, 7, 7, 7, 8, 8, 8, 8, 8, 8, 8, 8, 8, 8, 8, 8, 8, 8, 8, 8, 8, 8, 8, 8, 8, 8, 8, 8, 8, 8, 8, 8, 8, 8, 8, 8, 8, 8, 8, 8, 8, 8, 8, 8, 8, 8, 8, 8, 8, 8, 8, 8, 8, 8, 8, 8, 8, 8, 8, 8, 8, 8, 8, 8, 8, 8, 8, 8, 8, 8, 8, 8, 8, 8, 8, 8, 8, 8, 8, 8, 8, 8, 8, 8, 8, 8, 8, 8, 8, 8, 8, 8, 8, 8, 8, 8, 8, 8, 8, 8, 8, 8, 8, 8, 8, 8, 8, 8, 8, 8, 8, 8, 8, 8, 8, 8, 8, 8, 8, 8, 8, 8, 8, 8, 8, 8, 8, 8, 8, 8, 8, 8] : List UInt8) (Int.toNat (IntKind.wrap .u8 (Int.fdiv a1_ (2 ^ (min (Int.toNat (8 : Int)) (IntKind.bits .u64)))))) 0) : Nat) : Int)))))
            (.g (inR (IntKind.wrap .u8 a1_) (List.length ([0, 1, 2, 2, 3, 3, 3, 3, 4, 4, 4, 4, 4, 4, 4, 4, 5, 5, 5, 5, 5, 5, 5, 5, 5, 5, 5, 5, 5, 5, 5, 5, 6, 6, 6, 6, 6, 6, 6, 6, 6, 6, 6, 6, 6, 6, 6, 6, 6, 6, 6, 6, 6, 6, 6, 6, 6, 6, 6, 6, 6, 6, 6, 6, 7, 7, 7, 7, 7, 7, 7, 7, 7, 7, 7, 7, 7, 7, 7, 7, 7, 7, 7, 7, 7, 7, 7, 7, 7, 7, 7, 7, 7, 7, 7, 7, 7, 7, 7, 7, 7, 7, 7, 7, 7, 7, 7, 7, 7, 7, 7, 7, 7, 7, 7, 7, 7, 7, 7, 7, 7, 7, 7, 7, 7, 7, 7, 7, 8, 8, 8, 8, 8, 8, 8, 8, 8, 8, 8, 8, 8, 8, 8, 8, 8, 8, 8, 8, 8, 8, 8, 8, 8, 8, 8, 8, 8, 8, 8, 8, 8, 8, 8, 8, 8, 8, 8, 8, 8, 8, 8, 8, 8, 8, 8, 8, 8, 8, 8, 8, 8, 8, 8, 8, 8, 8, 8, 8, 8, 8, 8, 8, 8, 8, 8, 8, 8, 8, 8, 8, 8, 8, 8, 8, 8, 8, 8, 8, 8, 8, 8, 8, 8, 8, 8, 8, 8, 8, 8, 8, 8, 8, 8, 8, 8, 8, 8, 8, 8, 8, 8, 8, 8, 8, 8, 8, 8, 8, 8, 8, 8, 8, 8, 8, 8, 8, 8, 8, 8, 8, 8, 8, 8, 8, 8, 8] : List UInt8))) <|
              .l (IntKind.wrap .i64 ((0 : Int) + (IntKind.wrap .i64 ((UInt8.toNat (List.getD ([0, 1, 2, 2, 3, 3, 3, 3, 4, 4, 4, 4, 4, 4, 4, 4, 5, 5, 5, 5, 5, 5, 5, 5, 5, 5, 5, 5, 5, 5, 5, 5, 6, 6, 6, 6, 6, 6, 6, 6, 6, 6, 6, 6, 6, 6, 6, 6, 6, 6, 6, 6, 6, 6, 6, 6, 6, 6, 6, 6, 6, 6, 6, 6, 7, 7, 7, 7, 7, 7, 7, 7, 7, 7, 7, 7, 7, 7, 7, 7, 7, 7, 7, 7, 7, 7, 7, 7, 7, 7, 7, 7, 7, 7, 7, 7, 7, 7, 7, 7, 7, 7, 7, 7, 7, 7, 7, 7, 7, 7, 7, 7, 7, 7, 7, 7, 7, 7, 7, 7, 7, 7, 7, 7, 7, 7, 7, 7, 8, 8, 8, 8, 8, 8, 8, 8, 8, 8, 8, 8, 8, 8, 8, 8, 8, 8, 8, 8, 8, 8, 8, 8, 8, 8, 8, 8, 8, 8, 8, 8, 8, 8, 8, 8, 8, 8, 8, 8, 8, 8, 8, 8, 8, 8, 8, 8, 8, 8, 8, 8, 8, 8, 8, 8, 8, 8, 8, 8, 8, 8, 8, 8, 8, 8, 8, 8, 8, 8, 8, 8, 8, 8, 8, 8, 8, 8, 8, 8, 8, 8, 8, 8, 8, 8, 8, 8, 8, 8, 8, 8, 8, 8, 8, 8, 8, 8, 8, 8, 8, 8, 8, 8, 8, 8, 8, 8, 8, 8, 8, 8, 8, 8, 8, 8, 8, 8, 8, 8, 8, 8, 8, 8, 8, 8, 8, 8] : List UInt8) (Int.toNat (IntKind.wrap .u8 a1_)) 0) : Nat) : Int)))))))

noncomputable def F_math_bits_Len64 (a1_ : Int) : Option (Int) := (T_math_bits_Len64 a1_).ev

noncomputable def A_math_bits_Len64 : Sh := (.cons (.dat (.int .u64)) .nil)

noncomputable def I_math_bits_Len64 : List (Nat × OSh) := []

noncomputable def K_math_bits_Len64 : RetK := { acts := [], res := [.tmp 2], sh := (.cons (.dat (.int .i64)) .nil), obs := [], pins := [] }

noncomputable def D_math_bits_Len64 : FD where
  A := A_math_bits_Len64
  ins := I_math_bits_Len64
  lend := []
  R := Int
  F := fun x => F_math_bits_Len64 x.1.1
  emb := fun r => ([.dat (.int .i64) r], [])

noncomputable def E_math_bits_Len64 : Env := envOf []

noncomputable def Z_math_bits_Len64 : Nat → Nat → List Nat := fun _ _ => []

noncomputable def O_math_bits_Len64 : List (Nat × LD) := []

noncomputable def C_math_bits_Len64 : Code := (f205.body).getD .skip

/-! ### 188 math/bits.Len -/

noncomputable def T_math_bits_Len (a1_ : Int) : Tr (Int) :=
  .c (Int) (F_math_bits_Len64 a1_) fun r1_ =>
  .l r1_

noncomputable def F_math_bits_Len (a1_ : Int) : Option (Int) := (T_math_bits_Len a1_).ev

noncomputable def A_math_bits_Len : Sh := (.cons (.dat (.int .u64)) .nil)

noncomputable def I_math_bits_Len : List (Nat × OSh) := []

noncomputable def K_math_bits_Len : RetK := { acts := [], res := [.tmp 2], sh := (.cons (.dat (.int .i64)) .nil), obs := [], pins := [] }

noncomputable def D_math_bits_Len : FD where
  A := A_math_bits_Len
  ins := I_math_bits_Len
  lend := []
  R := Int
  F := fun x => F_math_bits_Len x.1.1
  emb := fun r => ([.dat (.int .i64) r], [])

noncomputable def E_math_bits_Len : Env := envOf [(205, D_math_bits_Len64)]

noncomputable def Z_math_bits_Len : Nat → Nat → List Nat := fun _ _ => []

noncomputable def O_math_bits_Len : List (Nat × LD) := []

noncomputable def C_math_bits_Len : Code := (f188.body).getD .skip

/-! ### 217 cmp.isNaN[int] -/

noncomputable def T_cmp_isNaN_int (a1_ : Int) : Tr (Bool) :=
  .l (a1_ != a1_)

noncomputable def F_cmp_isNaN_int (a1_ : Int) : Option (Bool) := (T_cmp_isNaN_int a1_).ev

noncomputable def A_cmp_isNaN_int : Sh := (.cons (.dat (.int .i64)) .nil)

noncomputable def I_cmp_isNaN_int : List (Nat × OSh) := []

noncomputable def K_cmp_isNaN_int : RetK := { acts := [], res := [.tmp 2], sh := (.cons (.dat .bool) .nil), obs := [], pins := [] }

noncomputable def D_cmp_isNaN_int : FD where
  A := A_cmp_isNaN_int
  ins := I_cmp_isNaN_int
  lend := []
  R := Bool
  F := fun x => F_cmp_isNaN_int x.1.1
  emb := fun r => ([.dat .bool r], [])

noncomputable def E_cmp_isNaN_int : Env := envOf []

noncomputable def Z_cmp_isNaN_int : Nat → Nat → List Nat := fun _ _ => []

noncomputable def O_cmp_isNaN_int : List (Nat × LD) := []

noncomputable def C_cmp_isNaN_int : Code := (f217.body).getD .skip

/-! ### 201 cmp.Less[int] -/

noncomputable def T_cmp_Less_int (a1_ : Int) (a2_ : Int) : Tr (Bool) :=
  .c (Bool) (F_cmp_isNaN_int a1_) fun r1_ =>
  .t r1_
    (.c (Bool) (F_cmp_isNaN_int a2_) fun r2_ =>
      .t (!r2_)
        (.l true)
        (.l (decide (a1_ < a2_))))
    (.l (decide (a1_ < a2_)))

noncomputable def F_cmp_Less_int (a1_ : Int) (a2_ : Int) : Option (Bool) := (T_cmp_Less_int a1_ a2_).ev

noncomputable def A_cmp_Less_int : Sh := (.cons (.dat (.int .i64)) (.cons (.dat (.int .i64)) .nil))

noncomputable def I_cmp_Less_int : List (Nat × OSh) := []

noncomputable def K_cmp_Less_int : RetK := { acts := [], res := [.tmp 4], sh := (.cons (.dat .bool) .nil), obs := [], pins := [] }

noncomputable def D_cmp_Less_int : FD where
  A := A_cmp_Less_int
  ins := I_cmp_Less_int
  lend := []
  R := Bool
  F := fun x => F_cmp_Less_int x.1.1 x.1.2.1
  emb := fun r => ([.dat .bool r], [])

noncomputable def E_cmp_Less_int : Env := envOf [(217, D_cmp_isNaN_int)]

noncomputable def Z_cmp_Less_int : Nat → Nat → List Nat := fun _ _ => []

noncomputable def O_cmp_Less_int : List (Nat × LD) := []

noncomputable def C_cmp_Less_int : Code := (f201.body).getD .skip

/-! ### 195 slices.insertionSortOrdered[int] -/

noncomputable def S_slices_insertionSortOrdered_int_2 (k : (Int) × ((Int) × (Int))) (v : (Int) × (List (Int))) : Tr (((Int) × (List (Int))) ⊕ (List (Int))) :=
  .t (decide (k.1 < v.1))
    (.g (inR v.1 (List.length v.2)) <|
      .g (decide ((Int.toNat v.1) < List.length v.2)) <|
      .g (inR (IntKind.wrap .i64 (v.1 - (1 : Int))) (List.length v.2)) <|
      .g (decide ((Int.toNat (IntKind.wrap .i64 (v.1 - (1 : Int)))) < List.length v.2)) <|
      .c (Bool) (F_cmp_Less_int (List.getD v.2 (Int.toNat v.1) (0 : Int)) (List.getD v.2 (Int.toNat (IntKind.wrap .i64 (v.1 - (1 : Int)))) (0 : Int))) fun r10_ =>
      .t r10_
        (.g (inR (IntKind.wrap .i64 (v.1 - (1 : Int))) (List.length v.2)) <|
          .g (decide ((Int.toNat (IntKind.wrap .i64 (v.1 - (1 : Int)))) < List.length v.2)) <|
          .g (inR v.1 (List.length v.2)) <|
          .g (decide ((Int.toNat v.1) < List.length v.2)) <|
          .g (inR v.1 (List.length v.2)) <|
          .g (decide ((Int.toNat v.1) < List.length v.2)) <|
          .g (inR (IntKind.wrap .i64 (v.1 - (1 : Int))) (List.length (List.set v.2 (Int.toNat v.1) (List.getD v.2 (Int.toNat (IntKind.wrap .i64 (v.1 - (1 : Int)))) (0 : Int))))) <|
          .g (decide ((Int.toNat (IntKind.wrap .i64 (v.1 - (1 : Int)))) < List.length (List.set v.2 (Int.toNat v.1) (List.getD v.2 (Int.toNat (IntKind.wrap .i64 (v.1 - (1 : Int)))) (0 : Int))))) <|
          .l (.inl ((IntKind.wrap .i64 (v.1 - (1 : Int))), (List.set (List.set v.2 (Int.toNat v.1) (List.getD v.2 (Int.toNat (IntKind.wrap .i64 (v.1 - (1 : Int)))) (0 : Int))) (Int.toNat (IntKind.wrap .i64 (v.1 - (1 : Int)))) (List.getD v.2 (Int.toNat v.1) (0 : Int))))))
        (.l (.inr v.2)))
    (.l (.inr v.2))

noncomputable def L_slices_insertionSortOrdered_int_2 (k : (Int) × ((Int) × (Int))) (v : (Int) × (List (Int))) : Option (List (Int)) := iter (fun v => (S_slices_insertionSortOrdered_int_2 k v).ev) v

noncomputable def DL_slices_insertionSortOrdered_int_2 : LD where
  head := { acts := [], S := { slots := [0, 1, 2, 6, 7], sh := (.cons (.arr 64) (.cons (.dat (.int .i64)) (.cons (.dat (.int .i64)) (.cons (.dat (.int .i64)) (.cons (.dat (.int .i64)) .nil))))), obs := [(64, .arr 3 (.int .i64))] } }
  exits := [(2, { acts := [], S := { slots := [0, 1, 2, 6], sh := (.cons (.arr 64) (.cons (.dat (.int .i64)) (.cons (.dat (.int .i64)) (.cons (.dat (.int .i64)) .nil)))), obs := [(64, .arr 3 (.int .i64))] } })]
  rets := { acts := [], S := { slots := [], sh := .nil, obs := [] } }
  K := (Int) × ((Int) × (Int))
  V := (Int) × (List (Int))
  R := List (Int)
  join := fun k v => (((), (k.1, (k.2.1, (k.2.2, (v.1, ()))))), (v.2, ()))
  sk := fun t => (t.1.2.1, (t.1.2.2.1, t.1.2.2.2.1))
  sv := fun t => (t.1.2.2.2.2.1, t.2.1)
  step := S_slices_insertionSortOrdered_int_2
  leaf := fun k r => .l (.exit 2 (mkSt ({ slots := [0, 1, 2, 6], sh := (.cons (.arr 64) (.cons (.dat (.int .i64)) (.cons (.dat (.int .i64)) (.cons (.dat (.int .i64)) .nil)))), obs := [(64, .arr 3 (.int .i64))] }) (((), (k.1, (k.2.1, (k.2.2, ())))), (r, ()))))

noncomputable def S_slices_insertionSortOrdered_int_0 (k : (Int) × (Int)) (v : (Int) × (List (Int))) : Tr (((Int) × (List (Int))) ⊕ (List (Int))) :=
  .t (decide (v.1 < k.2))
    (.c (List (Int)) (L_slices_insertionSortOrdered_int_2 (k.1, (k.2, v.1)) (v.1, v.2)) fun r15_ =>
      .l (.inl ((IntKind.wrap .i64 (v.1 + (1 : Int))), r15_)))
    (.l (.inr v.2))

noncomputable def L_slices_insertionSortOrdered_int_0 (k : (Int) × (Int)) (v : (Int) × (List (Int))) : Option (List (Int)) := iter (fun v => (S_slices_insertionSortOrdered_int_0 k v).ev) v

noncomputable def DL_slices_insertionSortOrdered_int_0 : LD where
  head := { acts := [], S := { slots := [0, 1, 2, 6], sh := (.cons (.arr 64) (.cons (.dat (.int .i64)) (.cons (.dat (.int .i64)) (.cons (.dat (.int .i64)) .nil)))), obs := [(64, .arr 3 (.int .i64))] } }
  exits := [(0, { acts := [], S := { slots := [0], sh := (.cons (.arr 64) .nil), obs := [(64, .arr 3 (.int .i64))] } })]
  rets := { acts := [], S := { slots := [], sh := .nil, obs := [] } }
  K := (Int) × (Int)
  V := (Int) × (List (Int))
  R := List (Int)
  join := fun k v => (((), (k.1, (k.2, (v.1, ())))), (v.2, ()))
  sk := fun t => (t.1.2.1, t.1.2.2.1)
  sv := fun t => (t.1.2.2.2.1, t.2.1)
  step := S_slices_insertionSortOrdered_int_0
  leaf := fun _ r => .l (.exit 0 (mkSt ({ slots := [0], sh := (.cons (.arr 64) .nil), obs := [(64, .arr 3 (.int .i64))] }) (((), ()), (r, ()))))

noncomputable def T_slices_insertionSortOrdered_int (a2_ : Int) (a3_ : Int) (a1_ : List (Int)) : Tr (List (Int)) :=
  .c (List (Int)) (L_slices_insertionSortOrdered_int_0 (a2_, a3_) ((IntKind.wrap .i64 (a2_ + (1 : Int))), a1_)) fun r17_ =>
  .l r17_

noncomputable def F_slices_insertionSortOrdered_int (a2_ : Int) (a3_ : Int) (a1_ : List (Int)) : Option (List (Int)) := (T_slices_insertionSortOrdered_int a2_ a3_ a1_).ev

noncomputable def A_slices_insertionSortOrdered_int : Sh := (.cons (.arr 64) (.cons (.dat (.int .i64)) (.cons (.dat (.int .i64)) .nil)))

noncomputable def I_slices_insertionSortOrdered_int : List (Nat × OSh) := [(64, .arr 3 (.int .i64))]

noncomputable def K_slices_insertionSortOrdered_int : RetK := { acts := [], res := [], sh := .nil, obs := [(64, .arr 3 (.int .i64))], pins := [(0, 64)] }

noncomputable def D_slices_insertionSortOrdered_int : FD where
  A := A_slices_insertionSortOrdered_int
  ins := I_slices_insertionSortOrdered_int
  lend := [.arg 0]
  R := List (Int)
  F := fun x => F_slices_insertionSortOrdered_int x.1.2.1 x.1.2.2.1 x.2.1
  emb := fun r => ([], [(64, .arr 3 (.int .i64) r)])

noncomputable def E_slices_insertionSortOrdered_int : Env := envOf [(201, D_cmp_Less_int)]

noncomputable def Z_slices_insertionSortOrdered_int : Nat → Nat → List Nat := fun _ _ => []

noncomputable def O_slices_insertionSortOrdered_int : List (Nat × LD) := [(2, DL_slices_insertionSortOrdered_int_2), (0, DL_slices_insertionSortOrdered_int_0)]

noncomputable def C_slices_insertionSortOrdered_int : Code := (f195.body).getD .skip

/-! ### 212 slices.siftDownOrdered[int] -/

noncomputable def S_slices_siftDownOrdered_int_0 (k : (Int) × (Int)) (v : (Int) × (List (Int))) : Tr (((Int) × (List (Int))) ⊕ ((List (Int)) ⊕ (List (Int)))) :=
  .t (decide (k.1 ≤ (IntKind.wrap .i64 ((IntKind.wrap .i64 ((2 : Int) * v.1)) + (1 : Int)))))
    (.l (.inr (.inl v.2)))
    (.t (decide ((IntKind.wrap .i64 ((IntKind.wrap .i64 ((IntKind.wrap .i64 ((2 : Int) * v.1)) + (1 : Int))) + (1 : Int))) < k.1))
        (.g (inR (IntKind.wrap .i64 (k.2 + (IntKind.wrap .i64 ((IntKind.wrap .i64 ((2 : Int) * v.1)) + (1 : Int))))) (List.length v.2)) <|
          .g (decide ((Int.toNat (IntKind.wrap .i64 (k.2 + (IntKind.wrap .i64 ((IntKind.wrap .i64 ((2 : Int) * v.1)) + (1 : Int)))))) < List.length v.2)) <|
          .g (inR (IntKind.wrap .i64 ((IntKind.wrap .i64 (k.2 + (IntKind.wrap .i64 ((IntKind.wrap .i64 ((2 : Int) * v.1)) + (1 : Int))))) + (1 : Int))) (List.length v.2)) <|
          .g (decide ((Int.toNat (IntKind.wrap .i64 ((IntKind.wrap .i64 (k.2 + (IntKind.wrap .i64 ((IntKind.wrap .i64 ((2 : Int) * v.1)) + (1 : Int))))) + (1 : Int)))) < List.length v.2)) <|
          .c (Bool) (F_cmp_Less_int (List.getD v.2 (Int.toNat (IntKind.wrap .i64 (k.2 + (IntKind.wrap .i64 ((IntKind.wrap .i64 ((2 : Int) * v.1)) + (1 : Int)))))) (0 : Int)) (List.getD v.2 (Int.toNat (IntKind.wrap .i64 ((IntKind.wrap .i64 (k.2 + (IntKind.wrap .i64 ((IntKind.wrap .i64 ((2 : Int) * v.1)) + (1 : Int))))) + (1 : Int)))) (0 : Int))) fun r5_ =>
          .t r5_
            (.g (inR (IntKind.wrap .i64 (k.2 + v.1)) (List.length v.2)) <|
              .g (decide ((Int.toNat (IntKind.wrap .i64 (k.2 + v.1))) < List.length v.2)) <|
              .g (inR (IntKind.wrap .i64 (k.2 + (IntKind.wrap .i64 ((IntKind.wrap .i64 ((IntKind.wrap .i64 ((2 : Int) * v.1)) + (1 : Int))) + (1 : Int))))) (List.length v.2)) <|
              .g (decide ((Int.toNat (IntKind.wrap .i64 (k.2 + (IntKind.wrap .i64 ((IntKind.wrap .i64 ((IntKind.wrap .i64 ((2 : Int) * v.1)) + (1 : Int))) + (1 : Int)))))) < List.length v.2)) <|
              .c (Bool) (F_cmp_Less_int (List.getD v.2 (Int.toNat (IntKind.wrap .i64 (k.2 + v.1))) (0 : Int)) (List.getD v.2 (Int.toNat (IntKind.wrap .i64 (k.2 + (IntKind.wrap .i64 ((IntKind.wrap .i64 ((IntKind.wrap .i64 ((2 : Int) * v.1)) + (1 : Int))) + (1 : Int)))))) (0 : Int))) fun r6_ =>
              .t (!r6_)
                (.l (.inr (.inr v.2)))
                (.g (inR (IntKind.wrap .i64 (k.2 + (IntKind.wrap .i64 ((IntKind.wrap .i64 ((IntKind.wrap .i64 ((2 : Int) * v.1)) + (1 : Int))) + (1 : Int))))) (List.length v.2)) <|
                  .g (decide ((Int.toNat (IntKind.wrap .i64 (k.2 + (IntKind.wrap .i64 ((IntKind.wrap .i64 ((IntKind.wrap .i64 ((2 : Int) * v.1)) + (1 : Int))) + (1 : Int)))))) < List.length v.2)) <|
                  .g (inR (IntKind.wrap .i64 (k.2 + v.1)) (List.length v.2)) <|
                  .g (decide ((Int.toNat (IntKind.wrap .i64 (k.2 + v.1))) < List.length v.2)) <|
                  .g (inR (IntKind.wrap .i64 (k.2 + v.1)) (List.length v.2)) <|
                  .g (decide ((Int.toNat (IntKind.wrap .i64 (k.2 + v.1))) < List.length v.2)) <|
                  .g (inR (IntKind.wrap .i64 (k.2 + (IntKind.wrap .i64 ((IntKind.wrap .i64 ((IntKind.wrap .i64 ((2 : Int) * v.1)) + (1 : Int))) + (1 : Int))))) (List.length (List.set v.2 (Int.toNat (IntKind.wrap .i64 (k.2 + v.1))) (List.getD v.2 (Int.toNat (IntKind.wrap .i64 (k.2 + (IntKind.wrap .i64 ((IntKind.wrap .i64 ((IntKind.wrap .i64 ((2 : Int) * v.1)) + (1 : Int))) + (1 : Int)))))) (0 : Int))))) <|
                  .g (decide ((Int.toNat (IntKind.wrap .i64 (k.2 + (IntKind.wrap .i64 ((IntKind.wrap .i64 ((IntKind.wrap .i64 ((2 : Int) * v.1)) + (1 : Int))) + (1 : Int)))))) < List.length (List.set v.2 (Int.toNat (IntKind.wrap .i64 (k.2 + v.1))) (List.getD v.2 (Int.toNat (IntKind.wrap .i64 (k.2 + (IntKind.wrap .i64 ((IntKind.wrap .i64 ((IntKind.wrap .i64 ((2 : Int) * v.1)) + (1 : Int))) + (1 : Int)))))) (0 : Int))))) <|
                  .l (.inl ((IntKind.wrap .i64 ((IntKind.wrap .i64 ((IntKind.wrap .i64 ((2 : Int) * v.1)) + (1 : Int))) + (1 : Int))), (List.set (List.set v.2 (Int.toNat (IntKind.wrap .i64 (k.2 + v.1))) (List.getD v.2 (Int.toNat (IntKind.wrap .i64 (k.2 + (IntKind.wrap .i64 ((IntKind.wrap .i64 ((IntKind.wrap .i64 ((2 : Int) * v.1)) + (1 : Int))) + (1 : Int)))))) (0 : Int))) (Int.toNat (IntKind.wrap .i64 (k.2 + (IntKind.wrap .i64 ((IntKind.wrap .i64 ((IntKind.wrap .i64 ((2 : Int) * v.1)) + (1 : Int))) + (1 : Int)))))) (List.getD v.2 (Int.toNat (IntKind.wrap .i64 (k.2 + v.1))) (0 : Int)))))))
            (.g (inR (IntKind.wrap .i64 (k.2 + v.1)) (List.length v.2)) <|
              .g (decide ((Int.toNat (IntKind.wrap .i64 (k.2 + v.1))) < List.length v.2)) <|
              .g (inR (IntKind.wrap .i64 (k.2 + (IntKind.wrap .i64 ((IntKind.wrap .i64 ((2 : Int) * v.1)) + (1 : Int))))) (List.length v.2)) <|
              .g (decide ((Int.toNat (IntKind.wrap .i64 (k.2 + (IntKind.wrap .i64 ((IntKind.wrap .i64 ((2 : Int) * v.1)) + (1 : Int)))))) < List.length v.2)) <|
              .c (Bool) (F_cmp_Less_int (List.getD v.2 (Int.toNat (IntKind.wrap .i64 (k.2 + v.1))) (0 : Int)) (List.getD v.2 (Int.toNat (IntKind.wrap .i64 (k.2 + (IntKind.wrap .i64 ((IntKind.wrap .i64 ((2 : Int) * v.1)) + (1 : Int)))))) (0 : Int))) fun r7_ =>
              .t (!r7_)
                (.l (.inr (.inr v.2)))
                (.g (inR (IntKind.wrap .i64 (k.2 + (IntKind.wrap .i64 ((IntKind.wrap .i64 ((2 : Int) * v.1)) + (1 : Int))))) (List.length v.2)) <|
                  .g (decide ((Int.toNat (IntKind.wrap .i64 (k.2 + (IntKind.wrap .i64 ((IntKind.wrap .i64 ((2 : Int) * v.1)) + (1 : Int)))))) < List.length v.2)) <|
                  .g (inR (IntKind.wrap .i64 (k.2 + v.1)) (List.length v.2)) <|
                  .g (decide ((Int.toNat (IntKind.wrap .i64 (k.2 + v.1))) < List.length v.2)) <|
                  .g (inR (IntKind.wrap .i64 (k.2 + v.1)) (List.length v.2)) <|
                  .g (decide ((Int.toNat (IntKind.wrap .i64 (k.2 + v.1))) < List.length v.2)) <|
                  .g (inR (IntKind.wrap .i64 (k.2 + (IntKind.wrap .i64 ((IntKind.wrap .i64 ((2 : Int) * v.1)) + (1 : Int))))) (List.length (List.set v.2 (Int.toNat (IntKind.wrap .i64 (k.2 + v.1))) (List.getD v.2 (Int.toNat (IntKind.wrap .i64 (k.2 + (IntKind.wrap .i64 ((IntKind.wrap .i64 ((2 : Int) * v.1)) + (1 : Int)))))) (0 : Int))))) <|
                  .g (decide ((Int.toNat (IntKind.wrap .i64 (k.2 + (IntKind.wrap .i64 ((IntKind.wrap .i64 ((2 : Int) * v.1)) + (1 : Int)))))) < List.length (List.set v.2 (Int.toNat (IntKind.wrap .i64 (k.2 + v.1))) (List.getD v.2 (Int.toNat (IntKind.wrap .i64 (k.2 + (IntKind.wrap .i64 ((IntKind.wrap .i64 ((2 : Int) * v.1)) + (1 : Int)))))) (0 : Int))))) <|
                  .l (.inl ((IntKind.wrap .i64 ((IntKind.wrap .i64 ((2 : Int) * v.1)) + (1 : Int))), (List.set (List.set v.2 (Int.toNat (IntKind.wrap .i64 (k.2 + v.1))) (List.getD v.2 (Int.toNat (IntKind.wrap .i64 (k.2 + (IntKind.wrap .i64 ((IntKind.wrap .i64 ((2 : Int) * v.1)) + (1 : Int)))))) (0 : Int))) (Int.toNat (IntKind.wrap .i64 (k.2 + (IntKind.wrap .i64 ((IntKind.wrap .i64 ((2 : Int) * v.1)) + (1 : Int)))))) (List.getD v.2 (Int.toNat (IntKind.wrap .i64 (k.2 + v.1))) (0 : Int))))))))
        (.g (inR (IntKind.wrap .i64 (k.2 + v.1)) (List.length v.2)) <|
          .g (decide ((Int.toNat (IntKind.wrap .i64 (k.2 + v.1))) < List.length v.2)) <|
          .g (inR (IntKind.wrap .i64 (k.2 + (IntKind.wrap .i64 ((IntKind.wrap .i64 ((2 : Int) * v.1)) + (1 : Int))))) (List.length v.2)) <|
          .g (decide ((Int.toNat (IntKind.wrap .i64 (k.2 + (IntKind.wrap .i64 ((IntKind.wrap .i64 ((2 : Int) * v.1)) + (1 : Int)))))) < List.length v.2)) <|
          .c (Bool) (F_cmp_Less_int (List.getD v.2 (Int.toNat (IntKind.wrap .i64 (k.2 + v.1))) (0 : Int)) (List.getD v.2 (Int.toNat (IntKind.wrap .i64 (k.2 + (IntKind.wrap .i64 ((IntKind.wrap .i64 ((2 : Int) * v.1)) + (1 : Int)))))) (0 : Int))) fun r8_ =>
          .t (!r8_)
            (.l (.inr (.inr v.2)))
            (.g (inR (IntKind.wrap .i64 (k.2 + (IntKind.wrap .i64 ((IntKind.wrap .i64 ((2 : Int) * v.1)) + (1 : Int))))) (List.length v.2)) <|
              .g (decide ((Int.toNat (IntKind.wrap .i64 (k.2 + (IntKind.wrap .i64 ((IntKind.wrap .i64 ((2 : Int) * v.1)) + (1 : Int)))))) < List.length v.2)) <|
              .g (inR (IntKind.wrap .i64 (k.2 + v.1)) (List.length v.2)) <|
              .g (decide ((Int.toNat (IntKind.wrap .i64 (k.2 + v.1))) < List.length v.2)) <|
              .g (inR (IntKind.wrap .i64 (k.2 + v.1)) (List.length v.2)) <|
              .g (decide ((Int.toNat (IntKind.wrap .i64 (k.2 + v.1))) < List.length v.2)) <|
              .g (inR (IntKind.wrap .i64 (k.2 + (IntKind.wrap .i64 ((IntKind.wrap .i64 ((2 : Int) * v.1)) + (1 : Int))))) (List.length (List.set v.2 (Int.toNat (IntKind.wrap .i64 (k.2 + v.1))) (List.getD v.2 (Int.toNat (IntKind.wrap .i64 (k.2 + (IntKind.wrap .i64 ((IntKind.wrap .i64 ((2 : Int) * v.1)) + (1 : Int)))))) (0 : Int))))) <|
              .g (decide ((Int.toNat (IntKind.wrap .i64 (k.2 + (IntKind.wrap .i64 ((IntKind.wrap .i64 ((2 : Int) * v.1)) + (1 : Int)))))) < List.length (List.set v.2 (Int.toNat (IntKind.wrap .i64 (k.2 + v.1))) (List.getD v.2 (Int.toNat (IntKind.wrap .i64 (k.2 + (IntKind.wrap .i64 ((IntKind.wrap .i64 ((2 : Int) * v.1)) + (1 : Int)))))) (0 : Int))))) <|
              .l (.inl ((IntKind.wrap .i64 ((IntKind.wrap .i64 ((2 : Int) * v.1)) + (1 : Int))), (List.set (List.set v.2 (Int.toNat (IntKind.wrap .i64 (k.2 + v.1))) (List.getD v.2 (Int.toNat (IntKind.wrap .i64 (k.2 + (IntKind.wrap .i64 ((IntKind.wrap .i64 ((2 : Int) * v.1)) + (1 : Int)))))) (0 : Int))) (Int.toNat (IntKind.wrap .i64 (k.2 + (IntKind.wrap .i64 ((IntKind.wrap .i64 ((2 : Int) * v.1)) + (1 : Int)))))) (List.getD v.2 (Int.toNat (IntKind.wrap .i64 (k.2 + v.1))) (0 : Int))))))))

noncomputable def L_slices_siftDownOrdered_int_0 (k : (Int) × (Int)) (v : (Int) × (List (Int))) : Option ((List (Int)) ⊕ (List (Int))) := iter (fun v => (S_slices_siftDownOrdered_int_0 k v).ev) v

noncomputable def DL_slices_siftDownOrdered_int_0 : LD where
  head := { acts := [], S := { slots := [0, 2, 3, 8], sh := (.cons (.arr 64) (.cons (.dat (.int .i64)) (.cons (.dat (.int .i64)) (.cons (.dat (.int .i64)) .nil)))), obs := [(64, .arr 3 (.int .i64))] } }
  exits := [(0, { acts := [], S := { slots := [0], sh := (.cons (.arr 64) .nil), obs := [(64, .arr 3 (.int .i64))] } })]
  rets := { acts := [], S := { slots := [0], sh := (.cons (.arr 64) .nil), obs := [(64, .arr 3 (.int .i64))] } }
  K := (Int) × (Int)
  V := (Int) × (List (Int))
  R := (List (Int)) ⊕ (List (Int))
  join := fun k v => (((), (k.1, (k.2, (v.1, ())))), (v.2, ()))
  sk := fun t => (t.1.2.1, t.1.2.2.1)
  sv := fun t => (t.1.2.2.2.1, t.2.1)
  step := S_slices_siftDownOrdered_int_0
  leaf := fun _ r => .s (List (Int)) (List (Int)) r (fun a => .l (.exit 0 (mkSt ({ slots := [0], sh := (.cons (.arr 64) .nil), obs := [(64, .arr 3 (.int .i64))] }) (((), ()), (a, ()))))) (fun b => .l (.ret (mkSt ({ slots := [0], sh := (.cons (.arr 64) .nil), obs := [(64, .arr 3 (.int .i64))] }) (((), ()), (b, ())))))

noncomputable def T_slices_siftDownOrdered_int (a2_ : Int) (a3_ : Int) (a4_ : Int) (a1_ : List (Int)) : Tr (List (Int)) :=
  .c ((List (Int)) ⊕ (List (Int))) (L_slices_siftDownOrdered_int_0 (a3_, a4_) (a2_, a1_)) fun r11_ =>
  .s (List (Int)) (List (Int)) r11_
    (fun r12_ => .l r12_)
    (fun r13_ => .l r13_)

noncomputable def F_slices_siftDownOrdered_int (a2_ : Int) (a3_ : Int) (a4_ : Int) (a1_ : List (Int)) : Option (List (Int)) := (T_slices_siftDownOrdered_int a2_ a3_ a4_ a1_).ev

noncomputable def A_slices_siftDownOrdered_int : Sh := (.cons (.arr 64) (.cons (.dat (.int .i64)) (.cons (.dat (.int .i64)) (.cons (.dat (.int .i64)) .nil))))

noncomputable def I_slices_siftDownOrdered_int : List (Nat × OSh) := [(64, .arr 3 (.int .i64))]

noncomputable def K_slices_siftDownOrdered_int : RetK := { acts := [], res := [], sh := .nil, obs := [(64, .arr 3 (.int .i64))], pins := [(0, 64)] }

noncomputable def D_slices_siftDownOrdered_int : FD where
  A := A_slices_siftDownOrdered_int
  ins := I_slices_siftDownOrdered_int
  lend := [.arg 0]
  R := List (Int)
  F := fun x => F_slices_siftDownOrdered_int x.1.2.1 x.1.2.2.1 x.1.2.2.2.1 x.2.1
  emb := fun r => ([], [(64, .arr 3 (.int .i64) r)])

noncomputable def E_slices_siftDownOrdered_int : Env := envOf [(201, D_cmp_Less_int)]

noncomputable def Z_slices_siftDownOrdered_int : Nat → Nat → List Nat := fun _ _ => []

noncomputable def O_slices_siftDownOrdered_int : List (Nat × LD) := [(0, DL_slices_siftDownOrdered_int_0)]

noncomputable def C_slices_siftDownOrdered_int : Code := (f212.body).getD .skip

/-! ### 196 slices.heapSortOrdered[int] -/

noncomputable def S_slices_heapSortOrdered_int_0 (k : (Int) × ((Int) × (Int))) (v : (Int) × (List (Int))) : Tr (((Int) × (List (Int))) ⊕ (List (Int))) :=
  .t (decide ((0 : Int) ≤ v.1))
    (.c (List (Int)) (F_slices_siftDownOrdered_int v.1 k.2.2 k.1 v.2) fun r6_ =>
      .l (.inl ((IntKind.wrap .i64 (v.1 - (1 : Int))), r6_)))
    (.l (.inr v.2))

noncomputable def L_slices_heapSortOrdered_int_0 (k : (Int) × ((Int) × (Int))) (v : (Int) × (List (Int))) : Option (List (Int)) := iter (fun v => (S_slices_heapSortOrdered_int_0 k v).ev) v

noncomputable def DL_slices_heapSortOrdered_int_0 : LD where
  head := { acts := [], S := { slots := [0, 6, 7, 8, 9], sh := (.cons (.arr 64) (.cons (.dat (.int .i64)) (.cons (.dat (.int .i64)) (.cons (.dat (.int .i64)) (.cons (.dat (.int .i64)) .nil))))), obs := [(64, .arr 3 (.int .i64))] } }
  exits := [(0, { acts := [], S := { slots := [0, 6, 7, 8], sh := (.cons (.arr 64) (.cons (.dat (.int .i64)) (.cons (.dat (.int .i64)) (.cons (.dat (.int .i64)) .nil)))), obs := [(64, .arr 3 (.int .i64))] } })]
  rets := { acts := [], S := { slots := [], sh := .nil, obs := [] } }
  K := (Int) × ((Int) × (Int))
  V := (Int) × (List (Int))
  R := List (Int)
  join := fun k v => (((), (k.1, (k.2.1, (k.2.2, (v.1, ()))))), (v.2, ()))
  sk := fun t => (t.1.2.1, (t.1.2.2.1, t.1.2.2.2.1))
  sv := fun t => (t.1.2.2.2.2.1, t.2.1)
  step := S_slices_heapSortOrdered_int_0
  leaf := fun k r => .l (.exit 0 (mkSt ({ slots := [0, 6, 7, 8], sh := (.cons (.arr 64) (.cons (.dat (.int .i64)) (.cons (.dat (.int .i64)) (.cons (.dat (.int .i64)) .nil)))), obs := [(64, .arr 3 (.int .i64))] }) (((), (k.1, (k.2.1, (k.2.2, ())))), (r, ()))))

noncomputable def S_slices_heapSortOrdered_int_2 (k : (Int) × (Int)) (v : (Int) × (List (Int))) : Tr (((Int) × (List (Int))) ⊕ (List (Int))) :=
  .t (decide ((0 : Int) ≤ v.1))
    (.g (inR (IntKind.wrap .i64 (k.1 + v.1)) (List.length v.2)) <|
      .g (decide ((Int.toNat (IntKind.wrap .i64 (k.1 + v.1))) < List.length v.2)) <|
      .g (inR k.1 (List.length v.2)) <|
      .g (decide ((Int.toNat k.1) < List.length v.2)) <|
      .g (inR k.1 (List.length v.2)) <|
      .g (decide ((Int.toNat k.1) < List.length v.2)) <|
      .g (inR (IntKind.wrap .i64 (k.1 + v.1)) (List.length (List.set v.2 (Int.toNat k.1) (List.getD v.2 (Int.toNat (IntKind.wrap .i64 (k.1 + v.1))) (0 : Int))))) <|
      .g (decide ((Int.toNat (IntKind.wrap .i64 (k.1 + v.1))) < List.length (List.set v.2 (Int.toNat k.1) (List.getD v.2 (Int.toNat (IntKind.wrap .i64 (k.1 + v.1))) (0 : Int))))) <|
      .c (List (Int)) (F_slices_siftDownOrdered_int k.2 v.1 k.1 (List.set (List.set v.2 (Int.toNat k.1) (List.getD v.2 (Int.toNat (IntKind.wrap .i64 (k.1 + v.1))) (0 : Int))) (Int.toNat (IntKind.wrap .i64 (k.1 + v.1))) (List.getD v.2 (Int.toNat k.1) (0 : Int)))) fun r16_ =>
      .l (.inl ((IntKind.wrap .i64 (v.1 - (1 : Int))), r16_)))
    (.l (.inr v.2))

noncomputable def L_slices_heapSortOrdered_int_2 (k : (Int) × (Int)) (v : (Int) × (List (Int))) : Option (List (Int)) := iter (fun v => (S_slices_heapSortOrdered_int_2 k v).ev) v

noncomputable def DL_slices_heapSortOrdered_int_2 : LD where
  head := { acts := [], S := { slots := [0, 6, 7, 10], sh := (.cons (.arr 64) (.cons (.dat (.int .i64)) (.cons (.dat (.int .i64)) (.cons (.dat (.int .i64)) .nil)))), obs := [(64, .arr 3 (.int .i64))] } }
  exits := [(2, { acts := [], S := { slots := [0], sh := (.cons (.arr 64) .nil), obs := [(64, .arr 3 (.int .i64))] } })]
  rets := { acts := [], S := { slots := [], sh := .nil, obs := [] } }
  K := (Int) × (Int)
  V := (Int) × (List (Int))
  R := List (Int)
  join := fun k v => (((), (k.1, (k.2, (v.1, ())))), (v.2, ()))
  sk := fun t => (t.1.2.1, t.1.2.2.1)
  sv := fun t => (t.1.2.2.2.1, t.2.1)
  step := S_slices_heapSortOrdered_int_2
  leaf := fun _ r => .l (.exit 2 (mkSt ({ slots := [0], sh := (.cons (.arr 64) .nil), obs := [(64, .arr 3 (.int .i64))] }) (((), ()), (r, ()))))

noncomputable def T_slices_heapSortOrdered_int (a2_ : Int) (a3_ : Int) (a1_ : List (Int)) : Tr (List (Int)) :=
  .g (!decide ((2 : Int) = 0)) <|
  .c (List (Int)) (L_slices_heapSortOrdered_int_0 (a2_, ((0 : Int), (IntKind.wrap .i64 (a3_ - a2_)))) ((IntKind.wrap .i64 (Int.tdiv (IntKind.wrap .i64 ((IntKind.wrap .i64 (a3_ - a2_)) - (1 : Int))) (2 : Int))), a1_)) fun r11_ =>
  .c (List (Int)) (L_slices_heapSortOrdered_int_2 (a2_, (0 : Int)) ((IntKind.wrap .i64 ((IntKind.wrap .i64 (a3_ - a2_)) - (1 : Int))), r11_)) fun r18_ =>
  .l r18_

noncomputable def F_slices_heapSortOrdered_int (a2_ : Int) (a3_ : Int) (a1_ : List (Int)) : Option (List (Int)) := (T_slices_heapSortOrdered_int a2_ a3_ a1_).ev

noncomputable def A_slices_heapSortOrdered_int : Sh := (.cons (.arr 64) (.cons (.dat (.int .i64)) (.cons (.dat (.int .i64)) .nil)))

noncomputable def I_slices_heapSortOrdered_int : List (Nat × OSh) := [(64, .arr 3 (.int .i64))]

noncomputable def K_slices_heapSortOrdered_int : RetK := { acts := [], res := [], sh := .nil, obs := [(64, .arr 3 (.int .i64))], pins := [(0, 64)] }

noncomputable def D_slices_heapSortOrdered_int : FD where
  A := A_slices_heapSortOrdered_int
  ins := I_slices_heapSortOrdered_int
  lend := [.arg 0]
  R := List (Int)
  F := fun x => F_slices_heapSortOrdered_int x.1.2.1 x.1.2.2.1 x.2.1
  emb := fun r => ([], [(64, .arr 3 (.int .i64) r)])

noncomputable def E_slices_heapSortOrdered_int : Env := envOf [(212, D_slices_siftDownOrdered_int)]

noncomputable def Z_slices_heapSortOrdered_int : Nat → Nat → List Nat := fun _ _ => []

noncomputable def O_slices_heapSortOrdered_int : List (Nat × LD) := [(0, DL_slices_heapSortOrdered_int_0), (2, DL_slices_heapSortOrdered_int_2)]

noncomputable def C_slices_heapSortOrdered_int : Code := (f196.body).getD .skip

/-! ### 213 slices.nextPowerOfTwo -/

noncomputable def T_slices_nextPowerOfTwo (a1_ : Int) : Tr (Int) :=
  .c (Int) (F_math_bits_Len (IntKind.wrap .u64 a1_)) fun r1_ =>
  .g (decide ((0 : Int) ≤ r1_)) <|
  .l (IntKind.wrap .u64 ((1 : Int) * 2 ^ (min (Int.toNat r1_) (IntKind.bits .u64))))

noncomputable def F_slices_nextPowerOfTwo (a1_ : Int) : Option (Int) := (T_slices_nextPowerOfTwo a1_).ev

noncomputable def A_slices_nextPowerOfTwo : Sh := (.cons (.dat (.int .i64)) .nil)

noncomputable def I_slices_nextPowerOfTwo : List (Nat × OSh) := []

noncomputable def K_slices_nextPowerOfTwo : RetK := { acts := [], res := [.tmp 2], sh := (.cons (.dat (.int .u64)) .nil), obs := [], pins := [] }

noncomputable def D_slices_nextPowerOfTwo : FD where
  A := A_slices_nextPowerOfTwo
  ins := I_slices_nextPowerOfTwo
  lend := []
  R := Int
  F := fun x => F_slices_nextPowerOfTwo x.1.1
  emb := fun r => ([.dat (.int .u64) r], [])

noncomputable def E_slices_nextPowerOfTwo : Env := envOf [(188, D_math_bits_Len)]

noncomputable def Z_slices_nextPowerOfTwo : Nat → Nat → List Nat := fun _ _ => []

noncomputable def O_slices_nextPowerOfTwo : List (Nat × LD) := []

noncomputable def C_slices_nextPowerOfTwo : Code := (f213.body).getD .skip

/-! ### 214 (*slices.xorshift).Next -/

noncomputable def T_slices_xorshift_Next (a1_ : Int) : Tr ((Int) × (Int)) :=
  .g (decide ((0 : Int) ≤ (13 : Int))) <|
  .g (decide ((0 : Int) ≤ (7 : Int))) <|
  .g (decide ((0 : Int) ≤ (17 : Int))) <|
  .l ((IntKind.wrap .u64 (BitVec.toNat ((BitVec.ofInt (IntKind.bits .u64) (IntKind.wrap .u64 (BitVec.toNat ((BitVec.ofInt (IntKind.bits .u64) (IntKind.wrap .u64 (BitVec.toNat ((BitVec.ofInt (IntKind.bits .u64) a1_) ^^^ (BitVec.ofInt (IntKind.bits .u64) (IntKind.wrap .u64 (a1_ * 2 ^ (min (Int.toNat (13 : Int)) (IntKind.bits .u64))))))))) ^^^ (BitVec.ofInt (IntKind.bits .u64) (Int.fdiv (IntKind.wrap .u64 (BitVec.toNat ((BitVec.ofInt (IntKind.bits .u64) a1_) ^^^ (BitVec.ofInt (IntKind.bits .u64) (IntKind.wrap .u64 (a1_ * 2 ^ (min (Int.toNat (13 : Int)) (IntKind.bits .u64)))))))) (2 ^ (min (Int.toNat (7 : Int)) (IntKind.bits .u64))))))))) ^^^ (BitVec.ofInt (IntKind.bits .u64) (IntKind.wrap .u64 ((IntKind.wrap .u64 (BitVec.toNat ((BitVec.ofInt (IntKind.bits .u64) (IntKind.wrap .u64 (BitVec.toNat ((BitVec.ofInt (IntKind.bits .u64) a1_) ^^^ (BitVec.ofInt (IntKind.bits .u64) (IntKind.wrap .u64 (a1_ * 2 ^ (min (Int.toNat (13 : Int)) (IntKind.bits .u64))))))))) ^^^ (BitVec.ofInt (IntKind.bits .u64) (Int.fdiv (IntKind.wrap .u64 (BitVec.toNat ((BitVec.ofInt (IntKind.bits .u64) a1_) ^^^ (BitVec.ofInt (IntKind.bits .u64) (IntKind.wrap .u64 (a1_ * 2 ^ (min (Int.toNat (13 : Int)) (IntKind.bits .u64)))))))) (2 ^ (min (Int.toNat (7 : Int)) (IntKind.bits .u64)))))))) * 2 ^ (min (Int.toNat (17 : Int)) (IntKind.bits .u64)))))))), (IntKind.wrap .u64 (BitVec.toNat ((BitVec.ofInt (IntKind.bits .u64) (IntKind.wrap .u64 (BitVec.toNat ((BitVec.ofInt (IntKind.bits .u64) (IntKind.wrap .u64 (BitVec.toNat ((BitVec.ofInt (IntKind.bits .u64) a1_) ^^^ (BitVec.ofInt (IntKind.bits .u64) (IntKind.wrap .u64 (a1_ * 2 ^ (min (Int.toNat (13 : Int)) (IntKind.bits .u64))))))))) ^^^ (BitVec.ofInt (IntKind.bits .u64) (Int.fdiv (IntKind.wrap .u64 (BitVec.toNat ((BitVec.ofInt (IntKind.bits .u64) a1_) ^^^ (BitVec.ofInt (IntKind.bits .u64) (IntKind.wrap .u64 (a1_ * 2 ^ (min (Int.toNat (13 : Int)) (IntKind.bits .u64)))))))) (2 ^ (min (Int.toNat (7 : Int)) (IntKind.bits .u64))))))))) ^^^ (BitVec.ofInt (IntKind.bits .u64) (IntKind.wrap .u64 ((IntKind.wrap .u64 (BitVec.toNat ((BitVec.ofInt (IntKind.bits .u64) (IntKind.wrap .u64 (BitVec.toNat ((BitVec.ofInt (IntKind.bits .u64) a1_) ^^^ (BitVec.ofInt (IntKind.bits .u64) (IntKind.wrap .u64 (a1_ * 2 ^ (min (Int.toNat (13 : Int)) (IntKind.bits .u64))))))))) ^^^ (BitVec.ofInt (IntKind.bits .u64) (Int.fdiv (IntKind.wrap .u64 (BitVec.toNat ((BitVec.ofInt (IntKind.bits .u64) a1_) ^^^ (BitVec.ofInt (IntKind.bits .u64) (IntKind.wrap .u64 (a1_ * 2 ^ (min (Int.toNat (13 : Int)) (IntKind.bits .u64)))))))) (2 ^ (min (Int.toNat (7 : Int)) (IntKind.bits .u64)))))))) * 2 ^ (min (Int.toNat (17 : Int)) (IntKind.bits .u64)))))))))

noncomputable def F_slices_xorshift_Next (a1_ : Int) : Option ((Int) × (Int)) := (T_slices_xorshift_Next a1_).ev

noncomputable def A_slices_xorshift_Next : Sh := (.cons (.box 64 0) .nil)

noncomputable def I_slices_xorshift_Next : List (Nat × OSh) := [(64, .cells (.cons (.dat (.int .u64)) .nil))]

noncomputable def K_slices_xorshift_Next : RetK := { acts := [], res := [.tmp 2], sh := (.cons (.dat (.int .u64)) .nil), obs := [(64, .cells (.cons (.dat (.int .u64)) .nil))], pins := [(0, 64)] }

noncomputable def D_slices_xorshift_Next : FD where
  A := A_slices_xorshift_Next
  ins := I_slices_xorshift_Next
  lend := [.arg 0]
  R := (Int) × (Int)
  F := fun x => F_slices_xorshift_Next x.2.1.1
  emb := fun r => ([.dat (.int .u64) r.1], [(64, .cells [.dat (.int .u64) r.2])])

noncomputable def E_slices_xorshift_Next : Env := envOf []

noncomputable def Z_slices_xorshift_Next : Nat → Nat → List Nat := fun _ _ => []

noncomputable def O_slices_xorshift_Next : List (Nat × LD) := []

noncomputable def C_slices_xorshift_Next : Code := (f214.body).getD .skip

/-! ### 197 slices.breakPatternsOrdered[int] -/

noncomputable def S_slices_breakPatternsOrdered_int_0 (k : (Int) × ((Int) × (Int))) (v : (Int) × ((List (Int)) × (Int))) : Tr (((Int) × ((List (Int)) × (Int))) ⊕ (List (Int))) :=
  .g (!decide ((4 : Int) = 0)) <|
  .t (decide (v.1 ≤ (IntKind.wrap .i64 ((IntKind.wrap .i64 (k.1 + (IntKind.wrap .i64 ((IntKind.wrap .i64 (Int.tdiv k.2.1 (4 : Int))) * (2 : Int))))) + (1 : Int)))))
    (.c ((Int) × (Int)) (F_slices_xorshift_Next v.2.2) fun r8_ =>
      .t (decide (k.2.1 ≤ (IntKind.wrap .i64 (IntKind.wrap .u64 (BitVec.toNat ((BitVec.ofInt (IntKind.bits .u64) r8_.1) &&& (BitVec.ofInt (IntKind.bits .u64) (IntKind.wrap .u64 (k.2.2 - (1 : Int))))))))))
        (.g (inR (IntKind.wrap .i64 (k.1 + (IntKind.wrap .i64 ((IntKind.wrap .i64 (IntKind.wrap .u64 (BitVec.toNat ((BitVec.ofInt (IntKind.bits .u64) r8_.1) &&& (BitVec.ofInt (IntKind.bits .u64) (IntKind.wrap .u64 (k.2.2 - (1 : Int)))))))) - k.2.1)))) (List.length v.2.1)) <|
          .g (decide ((Int.toNat (IntKind.wrap .i64 (k.1 + (IntKind.wrap .i64 ((IntKind.wrap .i64 (IntKind.wrap .u64 (BitVec.toNat ((BitVec.ofInt (IntKind.bits .u64) r8_.1) &&& (BitVec.ofInt (IntKind.bits .u64) (IntKind.wrap .u64 (k.2.2 - (1 : Int)))))))) - k.2.1))))) < List.length v.2.1)) <|
          .g (inR v.1 (List.length v.2.1)) <|
          .g (decide ((Int.toNat v.1) < List.length v.2.1)) <|
          .g (inR v.1 (List.length v.2.1)) <|
          .g (decide ((Int.toNat v.1) < List.length v.2.1)) <|
          .g (inR (IntKind.wrap .i64 (k.1 + (IntKind.wrap .i64 ((IntKind.wrap .i64 (IntKind.wrap .u64 (BitVec.toNat ((BitVec.ofInt (IntKind.bits .u64) r8_.1) &&& (BitVec.ofInt (IntKind.bits .u64) (IntKind.wrap .u64 (k.2.2 - (1 : Int)))))))) - k.2.1)))) (List.length (List.set v.2.1 (Int.toNat v.1) (List.getD v.2.1 (Int.toNat (IntKind.wrap .i64 (k.1 + (IntKind.wrap .i64 ((IntKind.wrap .i64 (IntKind.wrap .u64 (BitVec.toNat ((BitVec.ofInt (IntKind.bits .u64) r8_.1) &&& (BitVec.ofInt (IntKind.bits .u64) (IntKind.wrap .u64 (k.2.2 - (1 : Int)))))))) - k.2.1))))) (0 : Int))))) <|
          .g (decide ((Int.toNat (IntKind.wrap .i64 (k.1 + (IntKind.wrap .i64 ((IntKind.wrap .i64 (IntKind.wrap .u64 (BitVec.toNat ((BitVec.ofInt (IntKind.bits .u64) r8_.1) &&& (BitVec.ofInt (IntKind.bits .u64) (IntKind.wrap .u64 (k.2.2 - (1 : Int)))))))) - k.2.1))))) < List.length (List.set v.2.1 (Int.toNat v.1) (List.getD v.2.1 (Int.toNat (IntKind.wrap .i64 (k.1 + (IntKind.wrap .i64 ((IntKind.wrap .i64 (IntKind.wrap .u64 (BitVec.toNat ((BitVec.ofInt (IntKind.bits .u64) r8_.1) &&& (BitVec.ofInt (IntKind.bits .u64) (IntKind.wrap .u64 (k.2.2 - (1 : Int)))))))) - k.2.1))))) (0 : Int))))) <|
          .l (.inl ((IntKind.wrap .i64 (v.1 + (1 : Int))), ((List.set (List.set v.2.1 (Int.toNat v.1) (List.getD v.2.1 (Int.toNat (IntKind.wrap .i64 (k.1 + (IntKind.wrap .i64 ((IntKind.wrap .i64 (IntKind.wrap .u64 (BitVec.toNat ((BitVec.ofInt (IntKind.bits .u64) r8_.1) &&& (BitVec.ofInt (IntKind.bits .u64) (IntKind.wrap .u64 (k.2.2 - (1 : Int)))))))) - k.2.1))))) (0 : Int))) (Int.toNat (IntKind.wrap .i64 (k.1 + (IntKind.wrap .i64 ((IntKind.wrap .i64 (IntKind.wrap .u64 (BitVec.toNat ((BitVec.ofInt (IntKind.bits .u64) r8_.1) &&& (BitVec.ofInt (IntKind.bits .u64) (IntKind.wrap .u64 (k.2.2 - (1 : Int)))))))) - k.2.1))))) (List.getD v.2.1 (Int.toNat v.1) (0 : Int))), r8_.2))))
        (.g (inR (IntKind.wrap .i64 (k.1 + (IntKind.wrap .i64 (IntKind.wrap .u64 (BitVec.toNat ((BitVec.ofInt (IntKind.bits .u64) r8_.1) &&& (BitVec.ofInt (IntKind.bits .u64) (IntKind.wrap .u64 (k.2.2 - (1 : Int)))))))))) (List.length v.2.1)) <|
          .g (decide ((Int.toNat (IntKind.wrap .i64 (k.1 + (IntKind.wrap .i64 (IntKind.wrap .u64 (BitVec.toNat ((BitVec.ofInt (IntKind.bits .u64) r8_.1) &&& (BitVec.ofInt (IntKind.bits .u64) (IntKind.wrap .u64 (k.2.2 - (1 : Int))))))))))) < List.length v.2.1)) <|
          .g (inR v.1 (List.length v.2.1)) <|
          .g (decide ((Int.toNat v.1) < List.length v.2.1)) <|
          .g (inR v.1 (List.length v.2.1)) <|
          .g (decide ((Int.toNat v.1) < List.length v.2.1)) <|
          .g (inR (IntKind.wrap .i64 (k.1 + (IntKind.wrap .i64 (IntKind.wrap .u64 (BitVec.toNat ((BitVec.ofInt (IntKind.bits .u64) r8_.1) &&& (BitVec.ofInt (IntKind.bits .u64) (IntKind.wrap .u64 (k.2.2 - (1 : Int)))))))))) (List.length (List.set v.2.1 (Int.toNat v.1) (List.getD v.2.1 (Int.toNat (IntKind.wrap .i64 (k.1 + (IntKind.wrap .i64 (IntKind.wrap .u64 (BitVec.toNat ((BitVec.ofInt (IntKind.bits .u64) r8_.1) &&& (BitVec.ofInt (IntKind.bits .u64) (IntKind.wrap .u64 (k.2.2 - (1 : Int))))))))))) (0 : Int))))) <|
          .g (decide ((Int.toNat (IntKind.wrap .i64 (k.1 + (IntKind.wrap .i64 (IntKind.wrap .u64 (BitVec.toNat ((BitVec.ofInt (IntKind.bits .u64) r8_.1) &&& (BitVec.ofInt (IntKind.bits .u64) (IntKind.wrap .u64 (k.2.2 - (1 : Int))))))))))) < List.length (List.set v.2.1 (Int.toNat v.1) (List.getD v.2.1 (Int.toNat (IntKind.wrap .i64 (k.1 + (IntKind.wrap .i64 (IntKind.wrap .u64 (BitVec.toNat ((BitVec.ofInt (IntKind.bits .u64) r8_.1) &&& (BitVec.ofInt (IntKind.bits .u64) (IntKind.wrap .u64 (k.2.2 - (1 : Int))))))))))) (0 : Int))))) <|
          .l (.inl ((IntKind.wrap .i64 (v.1 + (1 : Int))), ((List.set (List.set v.2.1 (Int.toNat v.1) (List.getD v.2.1 (Int.toNat (IntKind.wrap .i64 (k.1 + (IntKind.wrap .i64 (IntKind.wrap .u64 (BitVec.toNat ((BitVec.ofInt (IntKind.bits .u64) r8_.1) &&& (BitVec.ofInt (IntKind.bits .u64) (IntKind.wrap .u64 (k.2.2 - (1 : Int))))))))))) (0 : Int))) (Int.toNat (IntKind.wrap .i64 (k.1 + (IntKind.wrap .i64 (IntKind.wrap .u64 (BitVec.toNat ((BitVec.ofInt (IntKind.bits .u64) r8_.1) &&& (BitVec.ofInt (IntKind.bits .u64) (IntKind.wrap .u64 (k.2.2 - (1 : Int))))))))))) (List.getD v.2.1 (Int.toNat v.1) (0 : Int))), r8_.2)))))
    (.l (.inr v.2.1))

noncomputable def L_slices_breakPatternsOrdered_int_0 (k : (Int) × ((Int) × (Int))) (v : (Int) × ((List (Int)) × (Int))) : Option (List (Int)) := iter (fun v => (S_slices_breakPatternsOrdered_int_0 k v).ev) v

noncomputable def DL_slices_breakPatternsOrdered_int_0 : LD where
  head := { acts := [], S := { slots := [0, 1, 6, 7, 8, 9], sh := (.cons (.arr 64) (.cons (.dat (.int .i64)) (.cons (.dat (.int .i64)) (.cons (.box 7 0) (.cons (.dat (.int .u64)) (.cons (.dat (.int .i64)) .nil)))))), obs := [(64, .arr 3 (.int .i64)), (7, .cells (.cons (.dat (.int .u64)) .nil))] } }
  exits := [(0, { acts := [], S := { slots := [0], sh := (.cons (.arr 64) .nil), obs := [(64, .arr 3 (.int .i64))] } })]
  rets := { acts := [], S := { slots := [], sh := .nil, obs := [] } }
  K := (Int) × ((Int) × (Int))
  V := (Int) × ((List (Int)) × (Int))
  R := List (Int)
  join := fun k v => (((), (k.1, (k.2.1, ((), (k.2.2, (v.1, ())))))), (v.2.1, ((v.2.2, ()), ())))
  sk := fun t => (t.1.2.1, (t.1.2.2.1, t.1.2.2.2.2.1))
  sv := fun t => (t.1.2.2.2.2.2.1, (t.2.1, t.2.2.1.1))
  step := S_slices_breakPatternsOrdered_int_0
  leaf := fun _ r => .l (.exit 0 (mkSt ({ slots := [0], sh := (.cons (.arr 64) .nil), obs := [(64, .arr 3 (.int .i64))] }) (((), ()), (r, ()))))

noncomputable def T_slices_breakPatternsOrdered_int (a2_ : Int) (a3_ : Int) (a1_ : List (Int)) : Tr (List (Int)) :=
  .t (decide ((8 : Int) ≤ (IntKind.wrap .i64 (a3_ - a2_))))
    (.c (Int) (F_slices_nextPowerOfTwo (IntKind.wrap .i64 (a3_ - a2_))) fun r1_ =>
      .g (!decide ((4 : Int) = 0)) <|
      .c (List (Int)) (L_slices_breakPatternsOrdered_int_0 (a2_, ((IntKind.wrap .i64 (a3_ - a2_)), r1_)) ((IntKind.wrap .i64 ((IntKind.wrap .i64 (a2_ + (IntKind.wrap .i64 ((IntKind.wrap .i64 (Int.tdiv (IntKind.wrap .i64 (a3_ - a2_)) (4 : Int))) * (2 : Int))))) - (1 : Int))), (a1_, (IntKind.wrap .u64 (IntKind.wrap .i64 (a3_ - a2_)))))) fun r10_ =>
      .l r10_)
    (.l a1_)

noncomputable def F_slices_breakPatternsOrdered_int (a2_ : Int) (a3_ : Int) (a1_ : List (Int)) : Option (List (Int)) := (T_slices_breakPatternsOrdered_int a2_ a3_ a1_).ev

noncomputable def A_slices_breakPatternsOrdered_int : Sh := (.cons (.arr 64) (.cons (.dat (.int .i64)) (.cons (.dat (.int .i64)) .nil)))

noncomputable def I_slices_breakPatternsOrdered_int : List (Nat × OSh) := [(64, .arr 3 (.int .i64))]

noncomputable def K_slices_breakPatternsOrdered_int : RetK := { acts := [], res := [], sh := .nil, obs := [(64, .arr 3 (.int .i64))], pins := [(0, 64)] }

noncomputable def D_slices_breakPatternsOrdered_int : FD where
  A := A_slices_breakPatternsOrdered_int
  ins := I_slices_breakPatternsOrdered_int
  lend := [.arg 0]
  R := List (Int)
  F := fun x => F_slices_breakPatternsOrdered_int x.1.2.1 x.1.2.2.1 x.2.1
  emb := fun r => ([], [(64, .arr 3 (.int .i64) r)])

noncomputable def E_slices_breakPatternsOrdered_int : Env := envOf [(213, D_slices_nextPowerOfTwo), (214, D_slices_xorshift_Next)]

noncomputable def Z_slices_breakPatternsOrdered_int : Nat → Nat → List Nat := fun _ _ => []

noncomputable def O_slices_breakPatternsOrdered_int : List (Nat × LD) := [(0, DL_slices_breakPatternsOrdered_int_0)]

noncomputable def C_slices_breakPatternsOrdered_int : Code := (f197.body).getD .skip

/-! ### 226 slices.order2Ordered[int] -/

noncomputable def T_slices_order2Ordered_int (a1_ : List (Int)) (a2_ : Int) (a3_ : Int) (a4_ : Int) : Tr ((Int) × ((Int) × (Int))) :=
  .g (inR a3_ (List.length a1_)) <|
  .g (inR a2_ (List.length a1_)) <|
  .c (Bool) (F_cmp_Less_int (List.getD a1_ (Int.toNat a3_) (0 : Int)) (List.getD a1_ (Int.toNat a2_) (0 : Int))) fun r1_ =>
  .t r1_
    (.l (a3_, (a2_, (IntKind.wrap .i64 (a4_ + (1 : Int))))))
    (.l (a2_, (a3_, a4_)))

noncomputable def F_slices_order2Ordered_int (a1_ : List (Int)) (a2_ : Int) (a3_ : Int) (a4_ : Int) : Option ((Int) × ((Int) × (Int))) := (T_slices_order2Ordered_int a1_ a2_ a3_ a4_).ev

noncomputable def A_slices_order2Ordered_int : Sh := (.cons (.dat (.slice (.int .i64))) (.cons (.dat (.int .i64)) (.cons (.dat (.int .i64)) (.cons (.box 64 0) .nil))))

noncomputable def I_slices_order2Ordered_int : List (Nat × OSh) := [(64, .cells (.cons (.dat (.int .i64)) .nil))]

noncomputable def K_slices_order2Ordered_int : RetK := { acts := [], res := [.tmp 8, .tmp 9], sh := (.cons (.dat (.int .i64)) (.cons (.dat (.int .i64)) .nil)), obs := [(64, .cells (.cons (.dat (.int .i64)) .nil))], pins := [(3, 64)] }

noncomputable def D_slices_order2Ordered_int : FD where
  A := A_slices_order2Ordered_int
  ins := I_slices_order2Ordered_int
  lend := [.arg 3]
  R := (Int) × ((Int) × (Int))
  F := fun x => F_slices_order2Ordered_int x.1.1 x.1.2.1 x.1.2.2.1 x.2.1.1
  emb := fun r => ([.dat (.int .i64) r.1, .dat (.int .i64) r.2.1], [(64, .cells [.dat (.int .i64) r.2.2])])

noncomputable def E_slices_order2Ordered_int : Env := envOf [(201, D_cmp_Less_int)]

noncomputable def Z_slices_order2Ordered_int : Nat → Nat → List Nat := fun _ _ => []

noncomputable def O_slices_order2Ordered_int : List (Nat × LD) := []

noncomputable def C_slices_order2Ordered_int : Code := (f226.body).getD .skip

/-! ### 216 slices.medianOrdered[int] -/

noncomputable def T_slices_medianOrdered_int (a1_ : List (Int)) (a2_ : Int) (a3_ : Int) (a4_ : Int) (a5_ : Int) : Tr ((Int) × (Int)) :=
  .c ((Int) × ((Int) × (Int))) (F_slices_order2Ordered_int a1_ a2_ a3_ a5_) fun r1_ =>
  .c ((Int) × ((Int) × (Int))) (F_slices_order2Ordered_int a1_ r1_.2.1 a4_ r1_.2.2) fun r2_ =>
  .c ((Int) × ((Int) × (Int))) (F_slices_order2Ordered_int a1_ r1_.1 r2_.1 r2_.2.2) fun r3_ =>
  .l (r3_.2.1, r3_.2.2)

noncomputable def F_slices_medianOrdered_int (a1_ : List (Int)) (a2_ : Int) (a3_ : Int) (a4_ : Int) (a5_ : Int) : Option ((Int) × (Int)) := (T_slices_medianOrdered_int a1_ a2_ a3_ a4_ a5_).ev

noncomputable def A_slices_medianOrdered_int : Sh := (.cons (.dat (.slice (.int .i64))) (.cons (.dat (.int .i64)) (.cons (.dat (.int .i64)) (.cons (.dat (.int .i64)) (.cons (.box 64 0) .nil)))))

noncomputable def I_slices_medianOrdered_int : List (Nat × OSh) := [(64, .cells (.cons (.dat (.int .i64)) .nil))]

noncomputable def K_slices_medianOrdered_int : RetK := { acts := [], res := [.tmp 10], sh := (.cons (.dat (.int .i64)) .nil), obs := [(64, .cells (.cons (.dat (.int .i64)) .nil))], pins := [(4, 64)] }

noncomputable def D_slices_medianOrdered_int : FD where
  A := A_slices_medianOrdered_int
  ins := I_slices_medianOrdered_int
  lend := [.arg 4]
  R := (Int) × (Int)
  F := fun x => F_slices_medianOrdered_int x.1.1 x.1.2.1 x.1.2.2.1 x.1.2.2.2.1 x.2.1.1
  emb := fun r => ([.dat (.int .i64) r.1], [(64, .cells [.dat (.int .i64) r.2])])

noncomputable def E_slices_medianOrdered_int : Env := envOf [(226, D_slices_order2Ordered_int)]

noncomputable def Z_slices_medianOrdered_int : Nat → Nat → List Nat := fun _ _ => []

noncomputable def O_slices_medianOrdered_int : List (Nat × LD) := []

noncomputable def C_slices_medianOrdered_int : Code := (f216.body).getD .skip

/-! ### 215 slices.medianAdjacentOrdered[int] -/

noncomputable def T_slices_medianAdjacentOrdered_int (a1_ : List (Int)) (a2_ : Int) (a3_ : Int) : Tr ((Int) × (Int)) :=
  .c ((Int) × (Int)) (F_slices_medianOrdered_int a1_ (IntKind.wrap .i64 (a2_ - (1 : Int))) a2_ (IntKind.wrap .i64 (a2_ + (1 : Int))) a3_) fun r1_ =>
  .l (r1_.1, r1_.2)

noncomputable def F_slices_medianAdjacentOrdered_int (a1_ : List (Int)) (a2_ : Int) (a3_ : Int) : Option ((Int) × (Int)) := (T_slices_medianAdjacentOrdered_int a1_ a2_ a3_).ev

noncomputable def A_slices_medianAdjacentOrdered_int : Sh := (.cons (.dat (.slice (.int .i64))) (.cons (.dat (.int .i64)) (.cons (.box 64 0) .nil)))

noncomputable def I_slices_medianAdjacentOrdered_int : List (Nat × OSh) := [(64, .cells (.cons (.dat (.int .i64)) .nil))]

noncomputable def K_slices_medianAdjacentOrdered_int : RetK := { acts := [], res := [.tmp 6], sh := (.cons (.dat (.int .i64)) .nil), obs := [(64, .cells (.cons (.dat (.int .i64)) .nil))], pins := [(2, 64)] }

noncomputable def D_slices_medianAdjacentOrdered_int : FD where
  A := A_slices_medianAdjacentOrdered_int
  ins := I_slices_medianAdjacentOrdered_int
  lend := [.arg 2]
  R := (Int) × (Int)
  F := fun x => F_slices_medianAdjacentOrdered_int x.1.1 x.1.2.1 x.2.1.1
  emb := fun r => ([.dat (.int .i64) r.1], [(64, .cells [.dat (.int .i64) r.2])])

noncomputable def E_slices_medianAdjacentOrdered_int : Env := envOf [(216, D_slices_medianOrdered_int)]

noncomputable def Z_slices_medianAdjacentOrdered_int : Nat → Nat → List Nat := fun _ _ => []

noncomputable def O_slices_medianAdjacentOrdered_int : List (Nat × LD) := []

noncomputable def C_slices_medianAdjacentOrdered_int : Code := (f215.body).getD .skip

/-! ### 198 slices.choosePivotOrdered[int] -/

noncomputable def T_slices_choosePivotOrdered_int (a1_ : List (Int)) (a2_ : Int) (a3_ : Int) : Tr ((Int) × (Int)) :=
  .g (!decide ((4 : Int) = 0)) <|
  .g (!decide ((4 : Int) = 0)) <|
  .g (!decide ((4 : Int) = 0)) <|
  .t (decide ((8 : Int) ≤ (IntKind.wrap .i64 (a3_ - a2_))))
    (.t (decide ((50 : Int) ≤ (IntKind.wrap .i64 (a3_ - a2_))))
        (.c ((Int) × (Int)) (F_slices_medianAdjacentOrdered_int a1_ (IntKind.wrap .i64 (a2_ + (IntKind.wrap .i64 ((IntKind.wrap .i64 (Int.tdiv (IntKind.wrap .i64 (a3_ - a2_)) (4 : Int))) * (1 : Int))))) (0 : Int)) fun r1_ =>
          .c ((Int) × (Int)) (F_slices_medianAdjacentOrdered_int a1_ (IntKind.wrap .i64 (a2_ + (IntKind.wrap .i64 ((IntKind.wrap .i64 (Int.tdiv (IntKind.wrap .i64 (a3_ - a2_)) (4 : Int))) * (2 : Int))))) r1_.2) fun r2_ =>
          .c ((Int) × (Int)) (F_slices_medianAdjacentOrdered_int a1_ (IntKind.wrap .i64 (a2_ + (IntKind.wrap .i64 ((IntKind.wrap .i64 (Int.tdiv (IntKind.wrap .i64 (a3_ - a2_)) (4 : Int))) * (3 : Int))))) r2_.2) fun r3_ =>
          .c ((Int) × (Int)) (F_slices_medianOrdered_int a1_ r1_.1 r2_.1 r3_.1 r3_.2) fun r4_ =>
          .t (r4_.2 == (0 : Int))
            (.l (r4_.1, (1 : Int)))
            (.t (r4_.2 == (12 : Int))
                (.l (r4_.1, (2 : Int)))
                (.l (r4_.1, (0 : Int)))))
        (.c ((Int) × (Int)) (F_slices_medianOrdered_int a1_ (IntKind.wrap .i64 (a2_ + (IntKind.wrap .i64 ((IntKind.wrap .i64 (Int.tdiv (IntKind.wrap .i64 (a3_ - a2_)) (4 : Int))) * (1 : Int))))) (IntKind.wrap .i64 (a2_ + (IntKind.wrap .i64 ((IntKind.wrap .i64 (Int.tdiv (IntKind.wrap .i64 (a3_ - a2_)) (4 : Int))) * (2 : Int))))) (IntKind.wrap .i64 (a2_ + (IntKind.wrap .i64 ((IntKind.wrap .i64 (Int.tdiv (IntKind.wrap .i64 (a3_ - a2_)) (4 : Int))) * (3 : Int))))) (0 : Int)) fun r5_ =>
          .t (r5_.2 == (0 : Int))
            (.l (r5_.1, (1 : Int)))
            (.t (r5_.2 == (12 : Int))
                (.l (r5_.1, (2 : Int)))
                (.l (r5_.1, (0 : Int))))))
    (.t ((0 : Int) == (0 : Int))
        (.l ((IntKind.wrap .i64 (a2_ + (IntKind.wrap .i64 ((IntKind.wrap .i64 (Int.tdiv (IntKind.wrap .i64 (a3_ - a2_)) (4 : Int))) * (2 : Int))))), (1 : Int)))
        (.t ((0 : Int) == (12 : Int))
            (.l ((IntKind.wrap .i64 (a2_ + (IntKind.wrap .i64 ((IntKind.wrap .i64 (Int.tdiv (IntKind.wrap .i64 (a3_ - a2_)) (4 : Int))) * (2 : Int))))), (2 : Int)))
            (.l ((IntKind.wrap .i64 (a2_ + (IntKind.wrap .i64 ((IntKind.wrap .i64 (Int.tdiv (IntKind.wrap .i64 (a3_ - a2_)) (4 : Int))) * (2 : Int))))), (0 : Int)))))

noncomputable def F_slices_choosePivotOrdered_int (a1_ : List (Int)) (a2_ : Int) (a3_ : Int) : Option ((Int) × (Int)) := (T_slices_choosePivotOrdered_int a1_ a2_ a3_).ev

noncomputable def A_slices_choosePivotOrdered_int : Sh := (.cons (.dat (.slice (.int .i64))) (.cons (.dat (.int .i64)) (.cons (.dat (.int .i64)) .nil)))

noncomputable def I_slices_choosePivotOrdered_int : List (Nat × OSh) := []

noncomputable def K_slices_choosePivotOrdered_int : RetK := { acts := [], res := [.tmp 6, .tmp 7], sh := (.cons (.dat (.int .i64)) (.cons (.dat (.int .i64)) .nil)), obs := [], pins := [] }

noncomputable def D_slices_choosePivotOrdered_int : FD where
  A := A_slices_choosePivotOrdered_int
  ins := I_slices_choosePivotOrdered_int
  lend := []
  R := (Int) × (Int)
  F := fun x => F_slices_choosePivotOrdered_int x.1.1 x.1.2.1 x.1.2.2.1
  emb := fun r => ([.dat (.int .i64) r.1, .dat (.int .i64) r.2], [])

noncomputable def E_slices_choosePivotOrdered_int : Env := envOf [(215, D_slices_medianAdjacentOrdered_int), (216, D_slices_medianOrdered_int)]

noncomputable def Z_slices_choosePivotOrdered_int : Nat → Nat → List Nat := fun _ _ => []

noncomputable def O_slices_choosePivotOrdered_int : List (Nat × LD) := []

noncomputable def C_slices_choosePivotOrdered_int : Code := (f198.body).getD .skip

/-! ### 199 slices.reverseRangeOrdered[int] -/

noncomputable def S_slices_reverseRangeOrdered_int_0 (_k : Unit) (v : (Int) × ((Int) × (List (Int)))) : Tr (((Int) × ((Int) × (List (Int)))) ⊕ (List (Int))) :=
  .t (decide (v.1 < v.2.1))
    (.g (inR v.2.1 (List.length v.2.2)) <|
      .g (decide ((Int.toNat v.2.1) < List.length v.2.2)) <|
      .g (inR v.1 (List.length v.2.2)) <|
      .g (decide ((Int.toNat v.1) < List.length v.2.2)) <|
      .g (inR v.1 (List.length v.2.2)) <|
      .g (decide ((Int.toNat v.1) < List.length v.2.2)) <|
      .g (inR v.2.1 (List.length (List.set v.2.2 (Int.toNat v.1) (List.getD v.2.2 (Int.toNat v.2.1) (0 : Int))))) <|
      .g (decide ((Int.toNat v.2.1) < List.length (List.set v.2.2 (Int.toNat v.1) (List.getD v.2.2 (Int.toNat v.2.1) (0 : Int))))) <|
      .l (.inl ((IntKind.wrap .i64 (v.1 + (1 : Int))), ((IntKind.wrap .i64 (v.2.1 - (1 : Int))), (List.set (List.set v.2.2 (Int.toNat v.1) (List.getD v.2.2 (Int.toNat v.2.1) (0 : Int))) (Int.toNat v.2.1) (List.getD v.2.2 (Int.toNat v.1) (0 : Int)))))))
    (.l (.inr v.2.2))

noncomputable def L_slices_reverseRangeOrdered_int_0 (k : Unit) (v : (Int) × ((Int) × (List (Int)))) : Option (List (Int)) := iter (fun v => (S_slices_reverseRangeOrdered_int_0 k v).ev) v

noncomputable def DL_slices_reverseRangeOrdered_int_0 : LD where
  head := { acts := [], S := { slots := [0, 6, 7], sh := (.cons (.arr 64) (.cons (.dat (.int .i64)) (.cons (.dat (.int .i64)) .nil))), obs := [(64, .arr 3 (.int .i64))] } }
  exits := [(0, { acts := [], S := { slots := [0], sh := (.cons (.arr 64) .nil), obs := [(64, .arr 3 (.int .i64))] } })]
  rets := { acts := [], S := { slots := [], sh := .nil, obs := [] } }
  K := Unit
  V := (Int) × ((Int) × (List (Int)))
  R := List (Int)
  join := fun _ v => (((), (v.1, (v.2.1, ()))), (v.2.2, ()))
  sk := fun _ => ()
  sv := fun t => (t.1.2.1, (t.1.2.2.1, t.2.1))
  step := S_slices_reverseRangeOrdered_int_0
  leaf := fun _ r => .l (.exit 0 (mkSt ({ slots := [0], sh := (.cons (.arr 64) .nil), obs := [(64, .arr 3 (.int .i64))] }) (((), ()), (r, ()))))

noncomputable def T_slices_reverseRangeOrdered_int (a2_ : Int) (a3_ : Int) (a1_ : List (Int)) : Tr (List (Int)) :=
  .c (List (Int)) (L_slices_reverseRangeOrdered_int_0 () (a2_, ((IntKind.wrap .i64 (a3_ - (1 : Int))), a1_))) fun r5_ =>
  .l r5_

noncomputable def F_slices_reverseRangeOrdered_int (a2_ : Int) (a3_ : Int) (a1_ : List (Int)) : Option (List (Int)) := (T_slices_reverseRangeOrdered_int a2_ a3_ a1_).ev

noncomputable def A_slices_reverseRangeOrdered_int : Sh := (.cons (.arr 64) (.cons (.dat (.int .i64)) (.cons (.dat (.int .i64)) .nil)))

noncomputable def I_slices_reverseRangeOrdered_int : List (Nat × OSh) := [(64, .arr 3 (.int .i64))]

noncomputable def K_slices_reverseRangeOrdered_int : RetK := { acts := [], res := [], sh := .nil, obs := [(64, .arr 3 (.int .i64))], pins := [(0, 64)] }

noncomputable def D_slices_reverseRangeOrdered_int : FD where
  A := A_slices_reverseRangeOrdered_int
  ins := I_slices_reverseRangeOrdered_int
  lend := [.arg 0]
  R := List (Int)
  F := fun x => F_slices_reverseRangeOrdered_int x.1.2.1 x.1.2.2.1 x.2.1
  emb := fun r => ([], [(64, .arr 3 (.int .i64) r)])

noncomputable def E_slices_reverseRangeOrdered_int : Env := envOf []

noncomputable def Z_slices_reverseRangeOrdered_int : Nat → Nat → List Nat := fun _ _ => []

noncomputable def O_slices_reverseRangeOrdered_int : List (Nat × LD) := [(0, DL_slices_reverseRangeOrdered_int_0)]

noncomputable def C_slices_reverseRangeOrdered_int : Code := (f199.body).getD .skip

/-! ### 200 slices.partialInsertionSortOrdered[int] -/

noncomputable def S_slices_partialInsertionSortOrdered_int_2 (k : (Int) × ((Int) × ((Int) × (List (Int))))) (v : Int) : Tr ((Int) ⊕ (Int)) :=
  .t (decide (v < k.2.1))
    (.g (inR v (List.length k.2.2.2)) <|
      .g (decide ((Int.toNat v) < List.length k.2.2.2)) <|
      .g (inR (IntKind.wrap .i64 (v - (1 : Int))) (List.length k.2.2.2)) <|
      .g (decide ((Int.toNat (IntKind.wrap .i64 (v - (1 : Int)))) < List.length k.2.2.2)) <|
      .c (Bool) (F_cmp_Less_int (List.getD k.2.2.2 (Int.toNat v) (0 : Int)) (List.getD k.2.2.2 (Int.toNat (IntKind.wrap .i64 (v - (1 : Int)))) (0 : Int))) fun r11_ =>
      .t (!r11_)
        (.l (.inl (IntKind.wrap .i64 (v + (1 : Int)))))
        (.l (.inr v)))
    (.l (.inr v))

noncomputable def L_slices_partialInsertionSortOrdered_int_2 (k : (Int) × ((Int) × ((Int) × (List (Int))))) (v : Int) : Option (Int) := iter (fun v => (S_slices_partialInsertionSortOrdered_int_2 k v).ev) v

noncomputable def DL_slices_partialInsertionSortOrdered_int_2 : LD where
  head := { acts := [], S := { slots := [0, 1, 2, 7, 8], sh := (.cons (.arr 64) (.cons (.dat (.int .i64)) (.cons (.dat (.int .i64)) (.cons (.dat (.int .i64)) (.cons (.dat (.int .i64)) .nil))))), obs := [(64, .arr 3 (.int .i64))] } }
  exits := [(2, { acts := [], S := { slots := [0, 1, 2, 7, 8], sh := (.cons (.arr 64) (.cons (.dat (.int .i64)) (.cons (.dat (.int .i64)) (.cons (.dat (.int .i64)) (.cons (.dat (.int .i64)) .nil))))), obs := [(64, .arr 3 (.int .i64))] } })]
  rets := { acts := [], S := { slots := [], sh := .nil, obs := [] } }
  K := (Int) × ((Int) × ((Int) × (List (Int))))
  V := Int
  R := Int
  join := fun k v => (((), (k.1, (k.2.1, (v, (k.2.2.1, ()))))), (k.2.2.2, ()))
  sk := fun t => (t.1.2.1, (t.1.2.2.1, (t.1.2.2.2.2.1, t.2.1)))
  sv := fun t => t.1.2.2.2.1
  step := S_slices_partialInsertionSortOrdered_int_2
  leaf := fun k r => .l (.exit 2 (mkSt ({ slots := [0, 1, 2, 7, 8], sh := (.cons (.arr 64) (.cons (.dat (.int .i64)) (.cons (.dat (.int .i64)) (.cons (.dat (.int .i64)) (.cons (.dat (.int .i64)) .nil))))), obs := [(64, .arr 3 (.int .i64))] }) (((), (k.1, (k.2.1, (r, (k.2.2.1, ()))))), (k.2.2.2, ()))))

noncomputable def S_slices_partialInsertionSortOrdered_int_4 (_k : (Int) × ((Int) × ((Int) × (Int)))) (v : (Int) × (List (Int))) : Tr (((Int) × (List (Int))) ⊕ (List (Int))) :=
  .t (decide ((1 : Int) ≤ v.1))
    (.g (inR v.1 (List.length v.2)) <|
      .g (decide ((Int.toNat v.1) < List.length v.2)) <|
      .g (inR (IntKind.wrap .i64 (v.1 - (1 : Int))) (List.length v.2)) <|
      .g (decide ((Int.toNat (IntKind.wrap .i64 (v.1 - (1 : Int)))) < List.length v.2)) <|
      .c (Bool) (F_cmp_Less_int (List.getD v.2 (Int.toNat v.1) (0 : Int)) (List.getD v.2 (Int.toNat (IntKind.wrap .i64 (v.1 - (1 : Int)))) (0 : Int))) fun r24_ =>
      .t (!r24_)
        (.l (.inr v.2))
        (.g (inR (IntKind.wrap .i64 (v.1 - (1 : Int))) (List.length v.2)) <|
          .g (decide ((Int.toNat (IntKind.wrap .i64 (v.1 - (1 : Int)))) < List.length v.2)) <|
          .g (inR v.1 (List.length v.2)) <|
          .g (decide ((Int.toNat v.1) < List.length v.2)) <|
          .g (inR v.1 (List.length v.2)) <|
          .g (decide ((Int.toNat v.1) < List.length v.2)) <|
          .g (inR (IntKind.wrap .i64 (v.1 - (1 : Int))) (List.length (List.set v.2 (Int.toNat v.1) (List.getD v.2 (Int.toNat (IntKind.wrap .i64 (v.1 - (1 : Int)))) (0 : Int))))) <|
          .g (decide ((Int.toNat (IntKind.wrap .i64 (v.1 - (1 : Int)))) < List.length (List.set v.2 (Int.toNat v.1) (List.getD v.2 (Int.toNat (IntKind.wrap .i64 (v.1 - (1 : Int)))) (0 : Int))))) <|
          .l (.inl ((IntKind.wrap .i64 (v.1 - (1 : Int))), (List.set (List.set v.2 (Int.toNat v.1) (List.getD v.2 (Int.toNat (IntKind.wrap .i64 (v.1 - (1 : Int)))) (0 : Int))) (Int.toNat (IntKind.wrap .i64 (v.1 - (1 : Int)))) (List.getD v.2 (Int.toNat v.1) (0 : Int)))))))
    (.l (.inr v.2))

noncomputable def L_slices_partialInsertionSortOrdered_int_4 (k : (Int) × ((Int) × ((Int) × (Int)))) (v : (Int) × (List (Int))) : Option (List (Int)) := iter (fun v => (S_slices_partialInsertionSortOrdered_int_4 k v).ev) v

noncomputable def DL_slices_partialInsertionSortOrdered_int_4 : LD where
  head := { acts := [], S := { slots := [0, 1, 2, 7, 8, 9], sh := (.cons (.arr 64) (.cons (.dat (.int .i64)) (.cons (.dat (.int .i64)) (.cons (.dat (.int .i64)) (.cons (.dat (.int .i64)) (.cons (.dat (.int .i64)) .nil)))))), obs := [(64, .arr 3 (.int .i64))] } }
  exits := [(4, { acts := [], S := { slots := [0, 1, 2, 7, 8], sh := (.cons (.arr 64) (.cons (.dat (.int .i64)) (.cons (.dat (.int .i64)) (.cons (.dat (.int .i64)) (.cons (.dat (.int .i64)) .nil))))), obs := [(64, .arr 3 (.int .i64))] } })]
  rets := { acts := [], S := { slots := [], sh := .nil, obs := [] } }
  K := (Int) × ((Int) × ((Int) × (Int)))
  V := (Int) × (List (Int))
  R := List (Int)
  join := fun k v => (((), (k.1, (k.2.1, (k.2.2.1, (k.2.2.2, (v.1, ())))))), (v.2, ()))
  sk := fun t => (t.1.2.1, (t.1.2.2.1, (t.1.2.2.2.1, t.1.2.2.2.2.1)))
  sv := fun t => (t.1.2.2.2.2.2.1, t.2.1)
  step := S_slices_partialInsertionSortOrdered_int_4
  leaf := fun k r => .l (.exit 4 (mkSt ({ slots := [0, 1, 2, 7, 8], sh := (.cons (.arr 64) (.cons (.dat (.int .i64)) (.cons (.dat (.int .i64)) (.cons (.dat (.int .i64)) (.cons (.dat (.int .i64)) .nil))))), obs := [(64, .arr 3 (.int .i64))] }) (((), (k.1, (k.2.1, (k.2.2.1, (k.2.2.2, ()))))), (r, ()))))

noncomputable def S_slices_partialInsertionSortOrdered_int_6 (k : (Int) × ((Int) × ((Int) × (Int)))) (v : (Int) × (List (Int))) : Tr (((Int) × (List (Int))) ⊕ (List (Int))) :=
  .t (decide (v.1 < k.2.1))
    (.g (inR v.1 (List.length v.2)) <|
      .g (decide ((Int.toNat v.1) < List.length v.2)) <|
      .g (inR (IntKind.wrap .i64 (v.1 - (1 : Int))) (List.length v.2)) <|
      .g (decide ((Int.toNat (IntKind.wrap .i64 (v.1 - (1 : Int)))) < List.length v.2)) <|
      .c (Bool) (F_cmp_Less_int (List.getD v.2 (Int.toNat v.1) (0 : Int)) (List.getD v.2 (Int.toNat (IntKind.wrap .i64 (v.1 - (1 : Int)))) (0 : Int))) fun r37_ =>
      .t (!r37_)
        (.l (.inr v.2))
        (.g (inR (IntKind.wrap .i64 (v.1 - (1 : Int))) (List.length v.2)) <|
          .g (decide ((Int.toNat (IntKind.wrap .i64 (v.1 - (1 : Int)))) < List.length v.2)) <|
          .g (inR v.1 (List.length v.2)) <|
          .g (decide ((Int.toNat v.1) < List.length v.2)) <|
          .g (inR v.1 (List.length v.2)) <|
          .g (decide ((Int.toNat v.1) < List.length v.2)) <|
          .g (inR (IntKind.wrap .i64 (v.1 - (1 : Int))) (List.length (List.set v.2 (Int.toNat v.1) (List.getD v.2 (Int.toNat (IntKind.wrap .i64 (v.1 - (1 : Int)))) (0 : Int))))) <|
          .g (decide ((Int.toNat (IntKind.wrap .i64 (v.1 - (1 : Int)))) < List.length (List.set v.2 (Int.toNat v.1) (List.getD v.2 (Int.toNat (IntKind.wrap .i64 (v.1 - (1 : Int)))) (0 : Int))))) <|
          .l (.inl ((IntKind.wrap .i64 (v.1 + (1 : Int))), (List.set (List.set v.2 (Int.toNat v.1) (List.getD v.2 (Int.toNat (IntKind.wrap .i64 (v.1 - (1 : Int)))) (0 : Int))) (Int.toNat (IntKind.wrap .i64 (v.1 - (1 : Int)))) (List.getD v.2 (Int.toNat v.1) (0 : Int)))))))
    (.l (.inr v.2))

noncomputable def L_slices_partialInsertionSortOrdered_int_6 (k : (Int) × ((Int) × ((Int) × (Int)))) (v : (Int) × (List (Int))) : Option (List (Int)) := iter (fun v => (S_slices_partialInsertionSortOrdered_int_6 k v).ev) v

noncomputable def DL_slices_partialInsertionSortOrdered_int_6 : LD where
  head := { acts := [], S := { slots := [0, 1, 2, 7, 8, 10], sh := (.cons (.arr 64) (.cons (.dat (.int .i64)) (.cons (.dat (.int .i64)) (.cons (.dat (.int .i64)) (.cons (.dat (.int .i64)) (.cons (.dat (.int .i64)) .nil)))))), obs := [(64, .arr 3 (.int .i64))] } }
  exits := [(6, { acts := [], S := { slots := [0, 1, 2, 7, 8], sh := (.cons (.arr 64) (.cons (.dat (.int .i64)) (.cons (.dat (.int .i64)) (.cons (.dat (.int .i64)) (.cons (.dat (.int .i64)) .nil))))), obs := [(64, .arr 3 (.int .i64))] } })]
  rets := { acts := [], S := { slots := [], sh := .nil, obs := [] } }
  K := (Int) × ((Int) × ((Int) × (Int)))
  V := (Int) × (List (Int))
  R := List (Int)
  join := fun k v => (((), (k.1, (k.2.1, (k.2.2.1, (k.2.2.2, (v.1, ())))))), (v.2, ()))
  sk := fun t => (t.1.2.1, (t.1.2.2.1, (t.1.2.2.2.1, t.1.2.2.2.2.1)))
  sv := fun t => (t.1.2.2.2.2.2.1, t.2.1)
  step := S_slices_partialInsertionSortOrdered_int_6
  leaf := fun k r => .l (.exit 6 (mkSt ({ slots := [0, 1, 2, 7, 8], sh := (.cons (.arr 64) (.cons (.dat (.int .i64)) (.cons (.dat (.int .i64)) (.cons (.dat (.int .i64)) (.cons (.dat (.int .i64)) .nil))))), obs := [(64, .arr 3 (.int .i64))] }) (((), (k.1, (k.2.1, (k.2.2.1, (k.2.2.2, ()))))), (r, ()))))

noncomputable def S_slices_partialInsertionSortOrdered_int_0 (k : (Int) × (Int)) (v : (Int) × ((Int) × (List (Int)))) : Tr (((Int) × ((Int) × (List (Int)))) ⊕ ((List (Int)) ⊕ ((Bool) × (List (Int))))) :=
  .t (decide (v.2.1 < (5 : Int)))
    (.c (Int) (L_slices_partialInsertionSortOrdered_int_2 (k.1, (k.2, (v.2.1, v.2.2))) v.1) fun r17_ =>
      .t (r17_ == k.2)
        (.l (.inr (.inr (true, v.2.2))))
        (.t (decide ((IntKind.wrap .i64 (k.2 - k.1)) < (50 : Int)))
            (.l (.inr (.inr (false, v.2.2))))
            (.g (inR (IntKind.wrap .i64 (r17_ - (1 : Int))) (List.length v.2.2)) <|
              .g (decide ((Int.toNat (IntKind.wrap .i64 (r17_ - (1 : Int)))) < List.length v.2.2)) <|
              .g (inR r17_ (List.length v.2.2)) <|
              .g (decide ((Int.toNat r17_) < List.length v.2.2)) <|
              .g (inR r17_ (List.length v.2.2)) <|
              .g (decide ((Int.toNat r17_) < List.length v.2.2)) <|
              .g (inR (IntKind.wrap .i64 (r17_ - (1 : Int))) (List.length (List.set v.2.2 (Int.toNat r17_) (List.getD v.2.2 (Int.toNat (IntKind.wrap .i64 (r17_ - (1 : Int)))) (0 : Int))))) <|
              .g (decide ((Int.toNat (IntKind.wrap .i64 (r17_ - (1 : Int)))) < List.length (List.set v.2.2 (Int.toNat r17_) (List.getD v.2.2 (Int.toNat (IntKind.wrap .i64 (r17_ - (1 : Int)))) (0 : Int))))) <|
              .t (decide ((2 : Int) ≤ (IntKind.wrap .i64 (r17_ - k.1))))
                (.c (List (Int)) (L_slices_partialInsertionSortOrdered_int_4 (k.1, (k.2, (r17_, v.2.1))) ((IntKind.wrap .i64 (r17_ - (1 : Int))), (List.set (List.set v.2.2 (Int.toNat r17_) (List.getD v.2.2 (Int.toNat (IntKind.wrap .i64 (r17_ - (1 : Int)))) (0 : Int))) (Int.toNat (IntKind.wrap .i64 (r17_ - (1 : Int)))) (List.getD v.2.2 (Int.toNat r17_) (0 : Int))))) fun r30_ =>
                  .t (decide ((2 : Int) ≤ (IntKind.wrap .i64 (k.2 - r17_))))
                    (.c (List (Int)) (L_slices_partialInsertionSortOrdered_int_6 (k.1, (k.2, (r17_, v.2.1))) ((IntKind.wrap .i64 (r17_ + (1 : Int))), r30_)) fun r43_ =>
                      .l (.inl (r17_, ((IntKind.wrap .i64 (v.2.1 + (1 : Int))), r43_))))
                    (.l (.inl (r17_, ((IntKind.wrap .i64 (v.2.1 + (1 : Int))), r30_)))))
                (.t (decide ((2 : Int) ≤ (IntKind.wrap .i64 (k.2 - r17_))))
                    (.c (List (Int)) (L_slices_partialInsertionSortOrdered_int_6 (k.1, (k.2, (r17_, v.2.1))) ((IntKind.wrap .i64 (r17_ + (1 : Int))), (List.set (List.set v.2.2 (Int.toNat r17_) (List.getD v.2.2 (Int.toNat (IntKind.wrap .i64 (r17_ - (1 : Int)))) (0 : Int))) (Int.toNat (IntKind.wrap .i64 (r17_ - (1 : Int)))) (List.getD v.2.2 (Int.toNat r17_) (0 : Int))))) fun r44_ =>
                      .l (.inl (r17_, ((IntKind.wrap .i64 (v.2.1 + (1 : Int))), r44_))))
                    (.l (.inl (r17_, ((IntKind.wrap .i64 (v.2.1 + (1 : Int))), (List.set (List.set v.2.2 (Int.toNat r17_) (List.getD v.2.2 (Int.toNat (IntKind.wrap .i64 (r17_ - (1 : Int)))) (0 : Int))) (Int.toNat (IntKind.wrap .i64 (r17_ - (1 : Int)))) (List.getD v.2.2 (Int.toNat r17_) (0 : Int)))))))))))
    (.l (.inr (.inl v.2.2)))

noncomputable def L_slices_partialInsertionSortOrdered_int_0 (k : (Int) × (Int)) (v : (Int) × ((Int) × (List (Int)))) : Option ((List (Int)) ⊕ ((Bool) × (List (Int)))) := iter (fun v => (S_slices_partialInsertionSortOrdered_int_0 k v).ev) v

noncomputable def DL_slices_partialInsertionSortOrdered_int_0 : LD where
  head := { acts := [], S := { slots := [0, 1, 2, 7, 8], sh := (.cons (.arr 64) (.cons (.dat (.int .i64)) (.cons (.dat (.int .i64)) (.cons (.dat (.int .i64)) (.cons (.dat (.int .i64)) .nil))))), obs := [(64, .arr 3 (.int .i64))] } }
  exits := [(0, { acts := [], S := { slots := [0], sh := (.cons (.arr 64) .nil), obs := [(64, .arr 3 (.int .i64))] } })]
  rets := { acts := [], S := { slots := [0, 6], sh := (.cons (.arr 64) (.cons (.dat .bool) .nil)), obs := [(64, .arr 3 (.int .i64))] } }
  K := (Int) × (Int)
  V := (Int) × ((Int) × (List (Int)))
  R := (List (Int)) ⊕ ((Bool) × (List (Int)))
  join := fun k v => (((), (k.1, (k.2, (v.1, (v.2.1, ()))))), (v.2.2, ()))
  sk := fun t => (t.1.2.1, t.1.2.2.1)
  sv := fun t => (t.1.2.2.2.1, (t.1.2.2.2.2.1, t.2.1))
  step := S_slices_partialInsertionSortOrdered_int_0
  leaf := fun _ r => .s (List (Int)) ((Bool) × (List (Int))) r (fun a => .l (.exit 0 (mkSt ({ slots := [0], sh := (.cons (.arr 64) .nil), obs := [(64, .arr 3 (.int .i64))] }) (((), ()), (a, ()))))) (fun b => .l (.ret (mkSt ({ slots := [0, 6], sh := (.cons (.arr 64) (.cons (.dat .bool) .nil)), obs := [(64, .arr 3 (.int .i64))] }) (((), (b.1, ())), (b.2, ())))))

noncomputable def T_slices_partialInsertionSortOrdered_int (a2_ : Int) (a3_ : Int) (a1_ : List (Int)) : Tr ((Bool) × (List (Int))) :=
  .c ((List (Int)) ⊕ ((Bool) × (List (Int)))) (L_slices_partialInsertionSortOrdered_int_0 (a2_, a3_) ((IntKind.wrap .i64 (a2_ + (1 : Int))), ((0 : Int), a1_))) fun r48_ =>
  .s (List (Int)) ((Bool) × (List (Int))) r48_
    (fun r49_ => .l (false, r49_))
    (fun r50_ => .l (r50_.1, r50_.2))

noncomputable def F_slices_partialInsertionSortOrdered_int (a2_ : Int) (a3_ : Int) (a1_ : List (Int)) : Option ((Bool) × (List (Int))) := (T_slices_partialInsertionSortOrdered_int a2_ a3_ a1_).ev

noncomputable def A_slices_partialInsertionSortOrdered_int : Sh := (.cons (.arr 64) (.cons (.dat (.int .i64)) (.cons (.dat (.int .i64)) .nil)))

noncomputable def I_slices_partialInsertionSortOrdered_int : List (Nat × OSh) := [(64, .arr 3 (.int .i64))]

noncomputable def K_slices_partialInsertionSortOrdered_int : RetK := { acts := [], res := [.tmp 6], sh := (.cons (.dat .bool) .nil), obs := [(64, .arr 3 (.int .i64))], pins := [(0, 64)] }

noncomputable def D_slices_partialInsertionSortOrdered_int : FD where
  A := A_slices_partialInsertionSortOrdered_int
  ins := I_slices_partialInsertionSortOrdered_int
  lend := [.arg 0]
  R := (Bool) × (List (Int))
  F := fun x => F_slices_partialInsertionSortOrdered_int x.1.2.1 x.1.2.2.1 x.2.1
  emb := fun r => ([.dat .bool r.1], [(64, .arr 3 (.int .i64) r.2)])

noncomputable def E_slices_partialInsertionSortOrdered_int : Env := envOf [(201, D_cmp_Less_int)]

noncomputable def Z_slices_partialInsertionSortOrdered_int : Nat → Nat → List Nat := fun _ _ => []

noncomputable def O_slices_partialInsertionSortOrdered_int : List (Nat × LD) := [(2, DL_slices_partialInsertionSortOrdered_int_2), (4, DL_slices_partialInsertionSortOrdered_int_4), (6, DL_slices_partialInsertionSortOrdered_int_6), (0, DL_slices_partialInsertionSortOrdered_int_0)]

noncomputable def C_slices_partialInsertionSortOrdered_int : Code := (f200.body).getD .skip

/-! ### 202 slices.partitionEqualOrdered[int] -/

noncomputable def S_slices_partitionEqualOrdered_int_2 (k : (Int) × ((Int) × (List (Int)))) (v : Int) : Tr ((Int) ⊕ (Int)) :=
  .t (decide (v ≤ k.2.1))
    (.g (inR k.1 (List.length k.2.2)) <|
      .g (decide ((Int.toNat k.1) < List.length k.2.2)) <|
      .g (inR v (List.length k.2.2)) <|
      .g (decide ((Int.toNat v) < List.length k.2.2)) <|
      .c (Bool) (F_cmp_Less_int (List.getD k.2.2 (Int.toNat k.1) (0 : Int)) (List.getD k.2.2 (Int.toNat v) (0 : Int))) fun r9_ =>
      .t (!r9_)
        (.l (.inl (IntKind.wrap .i64 (v + (1 : Int)))))
        (.l (.inr v)))
    (.l (.inr v))

noncomputable def L_slices_partitionEqualOrdered_int_2 (k : (Int) × ((Int) × (List (Int)))) (v : Int) : Option (Int) := iter (fun v => (S_slices_partitionEqualOrdered_int_2 k v).ev) v

noncomputable def DL_slices_partitionEqualOrdered_int_2 : LD where
  head := { acts := [], S := { slots := [0, 1, 9, 10], sh := (.cons (.arr 64) (.cons (.dat (.int .i64)) (.cons (.dat (.int .i64)) (.cons (.dat (.int .i64)) .nil)))), obs := [(64, .arr 3 (.int .i64))] } }
  exits := [(2, { acts := [], S := { slots := [0, 1, 9, 10], sh := (.cons (.arr 64) (.cons (.dat (.int .i64)) (.cons (.dat (.int .i64)) (.cons (.dat (.int .i64)) .nil)))), obs := [(64, .arr 3 (.int .i64))] } })]
  rets := { acts := [], S := { slots := [], sh := .nil, obs := [] } }
  K := (Int) × ((Int) × (List (Int)))
  V := Int
  R := Int
  join := fun k v => (((), (k.1, (v, (k.2.1, ())))), (k.2.2, ()))
  sk := fun t => (t.1.2.1, (t.1.2.2.2.1, t.2.1))
  sv := fun t => t.1.2.2.1
  step := S_slices_partitionEqualOrdered_int_2
  leaf := fun k r => .l (.exit 2 (mkSt ({ slots := [0, 1, 9, 10], sh := (.cons (.arr 64) (.cons (.dat (.int .i64)) (.cons (.dat (.int .i64)) (.cons (.dat (.int .i64)) .nil)))), obs := [(64, .arr 3 (.int .i64))] }) (((), (k.1, (r, (k.2.1, ())))), (k.2.2, ()))))

noncomputable def S_slices_partitionEqualOrdered_int_4 (k : (Int) × ((Int) × (List (Int)))) (v : Int) : Tr ((Int) ⊕ (Int)) :=
  .t (decide (k.2.1 ≤ v))
    (.g (inR k.1 (List.length k.2.2)) <|
      .g (decide ((Int.toNat k.1) < List.length k.2.2)) <|
      .g (inR v (List.length k.2.2)) <|
      .g (decide ((Int.toNat v) < List.length k.2.2)) <|
      .c (Bool) (F_cmp_Less_int (List.getD k.2.2 (Int.toNat k.1) (0 : Int)) (List.getD k.2.2 (Int.toNat v) (0 : Int))) fun r19_ =>
      .t r19_
        (.l (.inl (IntKind.wrap .i64 (v - (1 : Int)))))
        (.l (.inr v)))
    (.l (.inr v))

noncomputable def L_slices_partitionEqualOrdered_int_4 (k : (Int) × ((Int) × (List (Int)))) (v : Int) : Option (Int) := iter (fun v => (S_slices_partitionEqualOrdered_int_4 k v).ev) v

noncomputable def DL_slices_partitionEqualOrdered_int_4 : LD where
  head := { acts := [], S := { slots := [0, 1, 9, 10], sh := (.cons (.arr 64) (.cons (.dat (.int .i64)) (.cons (.dat (.int .i64)) (.cons (.dat (.int .i64)) .nil)))), obs := [(64, .arr 3 (.int .i64))] } }
  exits := [(4, { acts := [], S := { slots := [0, 1, 9, 10], sh := (.cons (.arr 64) (.cons (.dat (.int .i64)) (.cons (.dat (.int .i64)) (.cons (.dat (.int .i64)) .nil)))), obs := [(64, .arr 3 (.int .i64))] } })]
  rets := { acts := [], S := { slots := [], sh := .nil, obs := [] } }
  K := (Int) × ((Int) × (List (Int)))
  V := Int
  R := Int
  join := fun k v => (((), (k.1, (k.2.1, (v, ())))), (k.2.2, ()))
  sk := fun t => (t.1.2.1, (t.1.2.2.1, t.2.1))
  sv := fun t => t.1.2.2.2.1
  step := S_slices_partitionEqualOrdered_int_4
  leaf := fun k r => .l (.exit 4 (mkSt ({ slots := [0, 1, 9, 10], sh := (.cons (.arr 64) (.cons (.dat (.int .i64)) (.cons (.dat (.int .i64)) (.cons (.dat (.int .i64)) .nil)))), obs := [(64, .arr 3 (.int .i64))] }) (((), (k.1, (k.2.1, (r, ())))), (k.2.2, ()))))

noncomputable def S_slices_partitionEqualOrdered_int_0 (k : Int) (v : (Int) × ((Int) × (List (Int)))) : Tr (((Int) × ((Int) × (List (Int)))) ⊕ ((Int) × (List (Int)))) :=
  .c (Int) (L_slices_partitionEqualOrdered_int_2 (k, (v.2.1, v.2.2)) v.1) fun r14_ =>
  .c (Int) (L_slices_partitionEqualOrdered_int_4 (k, (r14_, v.2.2)) v.2.1) fun r24_ =>
  .t (decide (r24_ < r14_))
    (.l (.inr (r14_, v.2.2)))
    (.g (inR r24_ (List.length v.2.2)) <|
      .g (decide ((Int.toNat r24_) < List.length v.2.2)) <|
      .g (inR r14_ (List.length v.2.2)) <|
      .g (decide ((Int.toNat r14_) < List.length v.2.2)) <|
      .g (inR r14_ (List.length v.2.2)) <|
      .g (decide ((Int.toNat r14_) < List.length v.2.2)) <|
      .g (inR r24_ (List.length (List.set v.2.2 (Int.toNat r14_) (List.getD v.2.2 (Int.toNat r24_) (0 : Int))))) <|
      .g (decide ((Int.toNat r24_) < List.length (List.set v.2.2 (Int.toNat r14_) (List.getD v.2.2 (Int.toNat r24_) (0 : Int))))) <|
      .l (.inl ((IntKind.wrap .i64 (r14_ + (1 : Int))), ((IntKind.wrap .i64 (r24_ - (1 : Int))), (List.set (List.set v.2.2 (Int.toNat r14_) (List.getD v.2.2 (Int.toNat r24_) (0 : Int))) (Int.toNat r24_) (List.getD v.2.2 (Int.toNat r14_) (0 : Int)))))))

noncomputable def L_slices_partitionEqualOrdered_int_0 (k : Int) (v : (Int) × ((Int) × (List (Int)))) : Option ((Int) × (List (Int))) := iter (fun v => (S_slices_partitionEqualOrdered_int_0 k v).ev) v

noncomputable def DL_slices_partitionEqualOrdered_int_0 : LD where
  head := { acts := [], S := { slots := [0, 1, 9, 10], sh := (.cons (.arr 64) (.cons (.dat (.int .i64)) (.cons (.dat (.int .i64)) (.cons (.dat (.int .i64)) .nil)))), obs := [(64, .arr 3 (.int .i64))] } }
  exits := [(0, { acts := [], S := { slots := [0, 9], sh := (.cons (.arr 64) (.cons (.dat (.int .i64)) .nil)), obs := [(64, .arr 3 (.int .i64))] } })]
  rets := { acts := [], S := { slots := [], sh := .nil, obs := [] } }
  K := Int
  V := (Int) × ((Int) × (List (Int)))
  R := (Int) × (List (Int))
  join := fun k v => (((), (k, (v.1, (v.2.1, ())))), (v.2.2, ()))
  sk := fun t => t.1.2.1
  sv := fun t => (t.1.2.2.1, (t.1.2.2.2.1, t.2.1))
  step := S_slices_partitionEqualOrdered_int_0
  leaf := fun _ r => .l (.exit 0 (mkSt ({ slots := [0, 9], sh := (.cons (.arr 64) (.cons (.dat (.int .i64)) .nil)), obs := [(64, .arr 3 (.int .i64))] }) (((), (r.1, ())), (r.2, ()))))

noncomputable def T_slices_partitionEqualOrdered_int (a2_ : Int) (a3_ : Int) (a4_ : Int) (a1_ : List (Int)) : Tr ((Int) × (List (Int))) :=
  .g (inR a4_ (List.length a1_)) <|
  .g (decide ((Int.toNat a4_) < List.length a1_)) <|
  .g (inR a2_ (List.length a1_)) <|
  .g (decide ((Int.toNat a2_) < List.length a1_)) <|
  .g (inR a2_ (List.length a1_)) <|
  .g (decide ((Int.toNat a2_) < List.length a1_)) <|
  .g (inR a4_ (List.length (List.set a1_ (Int.toNat a2_) (List.getD a1_ (Int.toNat a4_) (0 : Int))))) <|
  .g (decide ((Int.toNat a4_) < List.length (List.set a1_ (Int.toNat a2_) (List.getD a1_ (Int.toNat a4_) (0 : Int))))) <|
  .c ((Int) × (List (Int))) (L_slices_partitionEqualOrdered_int_0 a2_ ((IntKind.wrap .i64 (a2_ + (1 : Int))), ((IntKind.wrap .i64 (a3_ - (1 : Int))), (List.set (List.set a1_ (Int.toNat a2_) (List.getD a1_ (Int.toNat a4_) (0 : Int))) (Int.toNat a4_) (List.getD a1_ (Int.toNat a2_) (0 : Int)))))) fun r27_ =>
  .l (r27_.1, r27_.2)

noncomputable def F_slices_partitionEqualOrdered_int (a2_ : Int) (a3_ : Int) (a4_ : Int) (a1_ : List (Int)) : Option ((Int) × (List (Int))) := (T_slices_partitionEqualOrdered_int a2_ a3_ a4_ a1_).ev

noncomputable def A_slices_partitionEqualOrdered_int : Sh := (.cons (.arr 64) (.cons (.dat (.int .i64)) (.cons (.dat (.int .i64)) (.cons (.dat (.int .i64)) .nil))))

noncomputable def I_slices_partitionEqualOrdered_int : List (Nat × OSh) := [(64, .arr 3 (.int .i64))]

noncomputable def K_slices_partitionEqualOrdered_int : RetK := { acts := [], res := [.tmp 8], sh := (.cons (.dat (.int .i64)) .nil), obs := [(64, .arr 3 (.int .i64))], pins := [(0, 64)] }

noncomputable def D_slices_partitionEqualOrdered_int : FD where
  A := A_slices_partitionEqualOrdered_int
  ins := I_slices_partitionEqualOrdered_int
  lend := [.arg 0]
  R := (Int) × (List (Int))
  F := fun x => F_slices_partitionEqualOrdered_int x.1.2.1 x.1.2.2.1 x.1.2.2.2.1 x.2.1
  emb := fun r => ([.dat (.int .i64) r.1], [(64, .arr 3 (.int .i64) r.2)])

noncomputable def E_slices_partitionEqualOrdered_int : Env := envOf [(201, D_cmp_Less_int)]

noncomputable def Z_slices_partitionEqualOrdered_int : Nat → Nat → List Nat := fun _ _ => []

noncomputable def O_slices_partitionEqualOrdered_int : List (Nat × LD) := [(2, DL_slices_partitionEqualOrdered_int_2), (4, DL_slices_partitionEqualOrdered_int_4), (0, DL_slices_partitionEqualOrdered_int_0)]

noncomputable def C_slices_partitionEqualOrdered_int : Code := (f202.body).getD .skip

/-! ### 203 slices.partitionOrdered[int] -/

noncomputable def S_slices_partitionOrdered_int_0 (k : (Int) × ((Int) × (List (Int)))) (v : Int) : Tr ((Int) ⊕ (Int)) :=
  .t (decide (v ≤ k.2.1))
    (.g (inR v (List.length k.2.2)) <|
      .g (decide ((Int.toNat v) < List.length k.2.2)) <|
      .g (inR k.1 (List.length k.2.2)) <|
      .g (decide ((Int.toNat k.1) < List.length k.2.2)) <|
      .c (Bool) (F_cmp_Less_int (List.getD k.2.2 (Int.toNat v) (0 : Int)) (List.getD k.2.2 (Int.toNat k.1) (0 : Int))) fun r5_ =>
      .t r5_
        (.l (.inl (IntKind.wrap .i64 (v + (1 : Int)))))
        (.l (.inr v)))
    (.l (.inr v))

noncomputable def L_slices_partitionOrdered_int_0 (k : (Int) × ((Int) × (List (Int)))) (v : Int) : Option (Int) := iter (fun v => (S_slices_partitionOrdered_int_0 k v).ev) v

noncomputable def DL_slices_partitionOrdered_int_0 : LD where
  head := { acts := [], S := { slots := [0, 1, 10, 11], sh := (.cons (.arr 64) (.cons (.dat (.int .i64)) (.cons (.dat (.int .i64)) (.cons (.dat (.int .i64)) .nil)))), obs := [(64, .arr 3 (.int .i64))] } }
  exits := [(0, { acts := [], S := { slots := [0, 1, 10, 11], sh := (.cons (.arr 64) (.cons (.dat (.int .i64)) (.cons (.dat (.int .i64)) (.cons (.dat (.int .i64)) .nil)))), obs := [(64, .arr 3 (.int .i64))] } })]
  rets := { acts := [], S := { slots := [], sh := .nil, obs := [] } }
  K := (Int) × ((Int) × (List (Int)))
  V := Int
  R := Int
  join := fun k v => (((), (k.1, (v, (k.2.1, ())))), (k.2.2, ()))
  sk := fun t => (t.1.2.1, (t.1.2.2.2.1, t.2.1))
  sv := fun t => t.1.2.2.1
  step := S_slices_partitionOrdered_int_0
  leaf := fun k r => .l (.exit 0 (mkSt ({ slots := [0, 1, 10, 11], sh := (.cons (.arr 64) (.cons (.dat (.int .i64)) (.cons (.dat (.int .i64)) (.cons (.dat (.int .i64)) .nil)))), obs := [(64, .arr 3 (.int .i64))] }) (((), (k.1, (r, (k.2.1, ())))), (k.2.2, ()))))

noncomputable def S_slices_partitionOrdered_int_2 (k : (Int) × ((Int) × (List (Int)))) (v : Int) : Tr ((Int) ⊕ (Int)) :=
  .t (decide (k.2.1 ≤ v))
    (.g (inR v (List.length k.2.2)) <|
      .g (decide ((Int.toNat v) < List.length k.2.2)) <|
      .g (inR k.1 (List.length k.2.2)) <|
      .g (decide ((Int.toNat k.1) < List.length k.2.2)) <|
      .c (Bool) (F_cmp_Less_int (List.getD k.2.2 (Int.toNat v) (0 : Int)) (List.getD k.2.2 (Int.toNat k.1) (0 : Int))) fun r15_ =>
      .t (!r15_)
        (.l (.inl (IntKind.wrap .i64 (v - (1 : Int)))))
        (.l (.inr v)))
    (.l (.inr v))

noncomputable def L_slices_partitionOrdered_int_2 (k : (Int) × ((Int) × (List (Int)))) (v : Int) : Option (Int) := iter (fun v => (S_slices_partitionOrdered_int_2 k v).ev) v

noncomputable def DL_slices_partitionOrdered_int_2 : LD where
  head := { acts := [], S := { slots := [0, 1, 10, 11], sh := (.cons (.arr 64) (.cons (.dat (.int .i64)) (.cons (.dat (.int .i64)) (.cons (.dat (.int .i64)) .nil)))), obs := [(64, .arr 3 (.int .i64))] } }
  exits := [(2, { acts := [], S := { slots := [0, 1, 10, 11], sh := (.cons (.arr 64) (.cons (.dat (.int .i64)) (.cons (.dat (.int .i64)) (.cons (.dat (.int .i64)) .nil)))), obs := [(64, .arr 3 (.int .i64))] } })]
  rets := { acts := [], S := { slots := [], sh := .nil, obs := [] } }
  K := (Int) × ((Int) × (List (Int)))
  V := Int
  R := Int
  join := fun k v => (((), (k.1, (k.2.1, (v, ())))), (k.2.2, ()))
  sk := fun t => (t.1.2.1, (t.1.2.2.1, t.2.1))
  sv := fun t => t.1.2.2.2.1
  step := S_slices_partitionOrdered_int_2
  leaf := fun k r => .l (.exit 2 (mkSt ({ slots := [0, 1, 10, 11], sh := (.cons (.arr 64) (.cons (.dat (.int .i64)) (.cons (.dat (.int .i64)) (.cons (.dat (.int .i64)) .nil)))), obs := [(64, .arr 3 (.int .i64))] }) (((), (k.1, (k.2.1, (r, ())))), (k.2.2, ()))))

noncomputable def S_slices_partitionOrdered_int_6 (k : (Int) × ((Int) × (List (Int)))) (v : Int) : Tr ((Int) ⊕ (Int)) :=
  .t (decide (v ≤ k.2.1))
    (.g (inR v (List.length k.2.2)) <|
      .g (decide ((Int.toNat v) < List.length k.2.2)) <|
      .g (inR k.1 (List.length k.2.2)) <|
      .g (decide ((Int.toNat k.1) < List.length k.2.2)) <|
      .c (Bool) (F_cmp_Less_int (List.getD k.2.2 (Int.toNat v) (0 : Int)) (List.getD k.2.2 (Int.toNat k.1) (0 : Int))) fun r29_ =>
      .t r29_
        (.l (.inl (IntKind.wrap .i64 (v + (1 : Int)))))
        (.l (.inr v)))
    (.l (.inr v))

noncomputable def L_slices_partitionOrdered_int_6 (k : (Int) × ((Int) × (List (Int)))) (v : Int) : Option (Int) := iter (fun v => (S_slices_partitionOrdered_int_6 k v).ev) v

noncomputable def DL_slices_partitionOrdered_int_6 : LD where
  head := { acts := [], S := { slots := [0, 1, 10, 11], sh := (.cons (.arr 64) (.cons (.dat (.int .i64)) (.cons (.dat (.int .i64)) (.cons (.dat (.int .i64)) .nil)))), obs := [(64, .arr 3 (.int .i64))] } }
  exits := [(6, { acts := [], S := { slots := [0, 1, 10, 11], sh := (.cons (.arr 64) (.cons (.dat (.int .i64)) (.cons (.dat (.int .i64)) (.cons (.dat (.int .i64)) .nil)))), obs := [(64, .arr 3 (.int .i64))] } })]
  rets := { acts := [], S := { slots := [], sh := .nil, obs := [] } }
  K := (Int) × ((Int) × (List (Int)))
  V := Int
  R := Int
  join := fun k v => (((), (k.1, (v, (k.2.1, ())))), (k.2.2, ()))
  sk := fun t => (t.1.2.1, (t.1.2.2.2.1, t.2.1))
  sv := fun t => t.1.2.2.1
  step := S_slices_partitionOrdered_int_6
  leaf := fun k r => .l (.exit 6 (mkSt ({ slots := [0, 1, 10, 11], sh := (.cons (.arr 64) (.cons (.dat (.int .i64)) (.cons (.dat (.int .i64)) (.cons (.dat (.int .i64)) .nil)))), obs := [(64, .arr 3 (.int .i64))] }) (((), (k.1, (r, (k.2.1, ())))), (k.2.2, ()))))

noncomputable def S_slices_partitionOrdered_int_8 (k : (Int) × ((Int) × (List (Int)))) (v : Int) : Tr ((Int) ⊕ (Int)) :=
  .t (decide (k.2.1 ≤ v))
    (.g (inR v (List.length k.2.2)) <|
      .g (decide ((Int.toNat v) < List.length k.2.2)) <|
      .g (inR k.1 (List.length k.2.2)) <|
      .g (decide ((Int.toNat k.1) < List.length k.2.2)) <|
      .c (Bool) (F_cmp_Less_int (List.getD k.2.2 (Int.toNat v) (0 : Int)) (List.getD k.2.2 (Int.toNat k.1) (0 : Int))) fun r39_ =>
      .t (!r39_)
        (.l (.inl (IntKind.wrap .i64 (v - (1 : Int)))))
        (.l (.inr v)))
    (.l (.inr v))

noncomputable def L_slices_partitionOrdered_int_8 (k : (Int) × ((Int) × (List (Int)))) (v : Int) : Option (Int) := iter (fun v => (S_slices_partitionOrdered_int_8 k v).ev) v

noncomputable def DL_slices_partitionOrdered_int_8 : LD where
  head := { acts := [], S := { slots := [0, 1, 10, 11], sh := (.cons (.arr 64) (.cons (.dat (.int .i64)) (.cons (.dat (.int .i64)) (.cons (.dat (.int .i64)) .nil)))), obs := [(64, .arr 3 (.int .i64))] } }
  exits := [(8, { acts := [], S := { slots := [0, 1, 10, 11], sh := (.cons (.arr 64) (.cons (.dat (.int .i64)) (.cons (.dat (.int .i64)) (.cons (.dat (.int .i64)) .nil)))), obs := [(64, .arr 3 (.int .i64))] } })]
  rets := { acts := [], S := { slots := [], sh := .nil, obs := [] } }
  K := (Int) × ((Int) × (List (Int)))
  V := Int
  R := Int
  join := fun k v => (((), (k.1, (k.2.1, (v, ())))), (k.2.2, ()))
  sk := fun t => (t.1.2.1, (t.1.2.2.1, t.2.1))
  sv := fun t => t.1.2.2.2.1
  step := S_slices_partitionOrdered_int_8
  leaf := fun k r => .l (.exit 8 (mkSt ({ slots := [0, 1, 10, 11], sh := (.cons (.arr 64) (.cons (.dat (.int .i64)) (.cons (.dat (.int .i64)) (.cons (.dat (.int .i64)) .nil)))), obs := [(64, .arr 3 (.int .i64))] }) (((), (k.1, (k.2.1, (r, ())))), (k.2.2, ()))))

noncomputable def S_slices_partitionOrdered_int_4 (k : Int) (v : (Int) × ((Int) × (List (Int)))) : Tr (((Int) × ((Int) × (List (Int)))) ⊕ ((Int) × (List (Int)))) :=
  .c (Int) (L_slices_partitionOrdered_int_6 (k, (v.2.1, v.2.2)) v.1) fun r34_ =>
  .c (Int) (L_slices_partitionOrdered_int_8 (k, (r34_, v.2.2)) v.2.1) fun r44_ =>
  .t (decide (r44_ < r34_))
    (.l (.inr (r44_, v.2.2)))
    (.g (inR r44_ (List.length v.2.2)) <|
      .g (decide ((Int.toNat r44_) < List.length v.2.2)) <|
      .g (inR r34_ (List.length v.2.2)) <|
      .g (decide ((Int.toNat r34_) < List.length v.2.2)) <|
      .g (inR r34_ (List.length v.2.2)) <|
      .g (decide ((Int.toNat r34_) < List.length v.2.2)) <|
      .g (inR r44_ (List.length (List.set v.2.2 (Int.toNat r34_) (List.getD v.2.2 (Int.toNat r44_) (0 : Int))))) <|
      .g (decide ((Int.toNat r44_) < List.length (List.set v.2.2 (Int.toNat r34_) (List.getD v.2.2 (Int.toNat r44_) (0 : Int))))) <|
      .l (.inl ((IntKind.wrap .i64 (r34_ + (1 : Int))), ((IntKind.wrap .i64 (r44_ - (1 : Int))), (List.set (List.set v.2.2 (Int.toNat r34_) (List.getD v.2.2 (Int.toNat r44_) (0 : Int))) (Int.toNat r44_) (List.getD v.2.2 (Int.toNat r34_) (0 : Int)))))))

noncomputable def L_slices_partitionOrdered_int_4 (k : Int) (v : (Int) × ((Int) × (List (Int)))) : Option ((Int) × (List (Int))) := iter (fun v => (S_slices_partitionOrdered_int_4 k v).ev) v

noncomputable def DL_slices_partitionOrdered_int_4 : LD where
  head := { acts := [], S := { slots := [0, 1, 10, 11], sh := (.cons (.arr 64) (.cons (.dat (.int .i64)) (.cons (.dat (.int .i64)) (.cons (.dat (.int .i64)) .nil)))), obs := [(64, .arr 3 (.int .i64))] } }
  exits := [(4, { acts := [], S := { slots := [0, 1, 11], sh := (.cons (.arr 64) (.cons (.dat (.int .i64)) (.cons (.dat (.int .i64)) .nil))), obs := [(64, .arr 3 (.int .i64))] } })]
  rets := { acts := [], S := { slots := [], sh := .nil, obs := [] } }
  K := Int
  V := (Int) × ((Int) × (List (Int)))
  R := (Int) × (List (Int))
  join := fun k v => (((), (k, (v.1, (v.2.1, ())))), (v.2.2, ()))
  sk := fun t => t.1.2.1
  sv := fun t => (t.1.2.2.1, (t.1.2.2.2.1, t.2.1))
  step := S_slices_partitionOrdered_int_4
  leaf := fun k r => .l (.exit 4 (mkSt ({ slots := [0, 1, 11], sh := (.cons (.arr 64) (.cons (.dat (.int .i64)) (.cons (.dat (.int .i64)) .nil))), obs := [(64, .arr 3 (.int .i64))] }) (((), (k, (r.1, ()))), (r.2, ()))))

noncomputable def T_slices_partitionOrdered_int (a2_ : Int) (a3_ : Int) (a4_ : Int) (a1_ : List (Int)) : Tr ((Int) × ((Bool) × (List (Int)))) :=
  .g (inR a4_ (List.length a1_)) <|
  .g (decide ((Int.toNat a4_) < List.length a1_)) <|
  .g (inR a2_ (List.length a1_)) <|
  .g (decide ((Int.toNat a2_) < List.length a1_)) <|
  .g (inR a2_ (List.length a1_)) <|
  .g (decide ((Int.toNat a2_) < List.length a1_)) <|
  .g (inR a4_ (List.length (List.set a1_ (Int.toNat a2_) (List.getD a1_ (Int.toNat a4_) (0 : Int))))) <|
  .g (decide ((Int.toNat a4_) < List.length (List.set a1_ (Int.toNat a2_) (List.getD a1_ (Int.toNat a4_) (0 : Int))))) <|
  .c (Int) (L_slices_partitionOrdered_int_0 (a2_, ((IntKind.wrap .i64 (a3_ - (1 : Int))), (List.set (List.set a1_ (Int.toNat a2_) (List.getD a1_ (Int.toNat a4_) (0 : Int))) (Int.toNat a4_) (List.getD a1_ (Int.toNat a2_) (0 : Int))))) (IntKind.wrap .i64 (a2_ + (1 : Int)))) fun r10_ =>
  .c (Int) (L_slices_partitionOrdered_int_2 (a2_, (r10_, (List.set (List.set a1_ (Int.toNat a2_) (List.getD a1_ (Int.toNat a4_) (0 : Int))) (Int.toNat a4_) (List.getD a1_ (Int.toNat a2_) (0 : Int))))) (IntKind.wrap .i64 (a3_ - (1 : Int)))) fun r20_ =>
  .t (decide (r20_ < r10_))
    (.g (inR a2_ (List.length (List.set (List.set a1_ (Int.toNat a2_) (List.getD a1_ (Int.toNat a4_) (0 : Int))) (Int.toNat a4_) (List.getD a1_ (Int.toNat a2_) (0 : Int))))) <|
      .g (decide ((Int.toNat a2_) < List.length (List.set (List.set a1_ (Int.toNat a2_) (List.getD a1_ (Int.toNat a4_) (0 : Int))) (Int.toNat a4_) (List.getD a1_ (Int.toNat a2_) (0 : Int))))) <|
      .g (inR r20_ (List.length (List.set (List.set a1_ (Int.toNat a2_) (List.getD a1_ (Int.toNat a4_) (0 : Int))) (Int.toNat a4_) (List.getD a1_ (Int.toNat a2_) (0 : Int))))) <|
      .g (decide ((Int.toNat r20_) < List.length (List.set (List.set a1_ (Int.toNat a2_) (List.getD a1_ (Int.toNat a4_) (0 : Int))) (Int.toNat a4_) (List.getD a1_ (Int.toNat a2_) (0 : Int))))) <|
      .g (inR r20_ (List.length (List.set (List.set a1_ (Int.toNat a2_) (List.getD a1_ (Int.toNat a4_) (0 : Int))) (Int.toNat a4_) (List.getD a1_ (Int.toNat a2_) (0 : Int))))) <|
      .g (decide ((Int.toNat r20_) < List.length (List.set (List.set a1_ (Int.toNat a2_) (List.getD a1_ (Int.toNat a4_) (0 : Int))) (Int.toNat a4_) (List.getD a1_ (Int.toNat a2_) (0 : Int))))) <|
      .g (inR a2_ (List.length (List.set (List.set (List.set a1_ (Int.toNat a2_) (List.getD a1_ (Int.toNat a4_) (0 : Int))) (Int.toNat a4_) (List.getD a1_ (Int.toNat a2_) (0 : Int))) (Int.toNat r20_) (List.getD (List.set (List.set a1_ (Int.toNat a2_) (List.getD a1_ (Int.toNat a4_) (0 : Int))) (Int.toNat a4_) (List.getD a1_ (Int.toNat a2_) (0 : Int))) (Int.toNat a2_) (0 : Int))))) <|
      .g (decide ((Int.toNat a2_) < List.length (List.set (List.set (List.set a1_ (Int.toNat a2_) (List.getD a1_ (Int.toNat a4_) (0 : Int))) (Int.toNat a4_) (List.getD a1_ (Int.toNat a2_) (0 : Int))) (Int.toNat r20_) (List.getD (List.set (List.set a1_ (Int.toNat a2_) (List.getD a1_ (Int.toNat a4_) (0 : Int))) (Int.toNat a4_) (List.getD a1_ (Int.toNat a2_) (0 : Int))) (Int.toNat a2_) (0 : Int))))) <|
      .l (r20_, (true, (List.set (List.set (List.set (List.set a1_ (Int.toNat a2_) (List.getD a1_ (Int.toNat a4_) (0 : Int))) (Int.toNat a4_) (List.getD a1_ (Int.toNat a2_) (0 : Int))) (Int.toNat r20_) (List.getD (List.set (List.set a1_ (Int.toNat a2_) (List.getD a1_ (Int.toNat a4_) (0 : Int))) (Int.toNat a4_) (List.getD a1_ (Int.toNat a2_) (0 : Int))) (Int.toNat a2_) (0 : Int))) (Int.toNat a2_) (List.getD (List.set (List.set a1_ (Int.toNat a2_) (List.getD a1_ (Int.toNat a4_) (0 : Int))) (Int.toNat a4_) (List.getD a1_ (Int.toNat a2_) (0 : Int))) (Int.toNat r20_) (0 : Int))))))
    (.g (inR r20_ (List.length (List.set (List.set a1_ (Int.toNat a2_) (List.getD a1_ (Int.toNat a4_) (0 : Int))) (Int.toNat a4_) (List.getD a1_ (Int.toNat a2_) (0 : Int))))) <|
      .g (decide ((Int.toNat r20_) < List.length (List.set (List.set a1_ (Int.toNat a2_) (List.getD a1_ (Int.toNat a4_) (0 : Int))) (Int.toNat a4_) (List.getD a1_ (Int.toNat a2_) (0 : Int))))) <|
      .g (inR r10_ (List.length (List.set (List.set a1_ (Int.toNat a2_) (List.getD a1_ (Int.toNat a4_) (0 : Int))) (Int.toNat a4_) (List.getD a1_ (Int.toNat a2_) (0 : Int))))) <|
      .g (decide ((Int.toNat r10_) < List.length (List.set (List.set a1_ (Int.toNat a2_) (List.getD a1_ (Int.toNat a4_) (0 : Int))) (Int.toNat a4_) (List.getD a1_ (Int.toNat a2_) (0 : Int))))) <|
      .g (inR r10_ (List.length (List.set (List.set a1_ (Int.toNat a2_) (List.getD a1_ (Int.toNat a4_) (0 : Int))) (Int.toNat a4_) (List.getD a1_ (Int.toNat a2_) (0 : Int))))) <|
      .g (decide ((Int.toNat r10_) < List.length (List.set (List.set a1_ (Int.toNat a2_) (List.getD a1_ (Int.toNat a4_) (0 : Int))) (Int.toNat a4_) (List.getD a1_ (Int.toNat a2_) (0 : Int))))) <|
      .g (inR r20_ (List.length (List.set (List.set (List.set a1_ (Int.toNat a2_) (List.getD a1_ (Int.toNat a4_) (0 : Int))) (Int.toNat a4_) (List.getD a1_ (Int.toNat a2_) (0 : Int))) (Int.toNat r10_) (List.getD (List.set (List.set a1_ (Int.toNat a2_) (List.getD a1_ (Int.toNat a4_) (0 : Int))) (Int.toNat a4_) (List.getD a1_ (Int.toNat a2_) (0 : Int))) (Int.toNat r20_) (0 : Int))))) <|
      .g (decide ((Int.toNat r20_) < List.length (List.set (List.set (List.set a1_ (Int.toNat a2_) (List.getD a1_ (Int.toNat a4_) (0 : Int))) (Int.toNat a4_) (List.getD a1_ (Int.toNat a2_) (0 : Int))) (Int.toNat r10_) (List.getD (List.set (List.set a1_ (Int.toNat a2_) (List.getD a1_ (Int.toNat a4_) (0 : Int))) (Int.toNat a4_) (List.getD a1_ (Int.toNat a2_) (0 : Int))) (Int.toNat r20_) (0 : Int))))) <|
      .c ((Int) × (List (Int))) (L_slices_partitionOrdered_int_4 a2_ ((IntKind.wrap .i64 (r10_ + (1 : Int))), ((IntKind.wrap .i64 (r20_ - (1 : Int))), (List.set (List.set (List.set (List.set a1_ (Int.toNat a2_) (List.getD a1_ (Int.toNat a4_) (0 : Int))) (Int.toNat a4_) (List.getD a1_ (Int.toNat a2_) (0 : Int))) (Int.toNat r10_) (List.getD (List.set (List.set a1_ (Int.toNat a2_) (List.getD a1_ (Int.toNat a4_) (0 : Int))) (Int.toNat a4_) (List.getD a1_ (Int.toNat a2_) (0 : Int))) (Int.toNat r20_) (0 : Int))) (Int.toNat r20_) (List.getD (List.set (List.set a1_ (Int.toNat a2_) (List.getD a1_ (Int.toNat a4_) (0 : Int))) (Int.toNat a4_) (List.getD a1_ (Int.toNat a2_) (0 : Int))) (Int.toNat r10_) (0 : Int)))))) fun r48_ =>
      .g (inR a2_ (List.length r48_.2)) <|
      .g (decide ((Int.toNat a2_) < List.length r48_.2)) <|
      .g (inR r48_.1 (List.length r48_.2)) <|
      .g (decide ((Int.toNat r48_.1) < List.length r48_.2)) <|
      .g (inR r48_.1 (List.length r48_.2)) <|
      .g (decide ((Int.toNat r48_.1) < List.length r48_.2)) <|
      .g (inR a2_ (List.length (List.set r48_.2 (Int.toNat r48_.1) (List.getD r48_.2 (Int.toNat a2_) (0 : Int))))) <|
      .g (decide ((Int.toNat a2_) < List.length (List.set r48_.2 (Int.toNat r48_.1) (List.getD r48_.2 (Int.toNat a2_) (0 : Int))))) <|
      .l (r48_.1, (false, (List.set (List.set r48_.2 (Int.toNat r48_.1) (List.getD r48_.2 (Int.toNat a2_) (0 : Int))) (Int.toNat a2_) (List.getD r48_.2 (Int.toNat r48_.1) (0 : Int))))))

noncomputable def F_slices_partitionOrdered_int (a2_ : Int) (a3_ : Int) (a4_ : Int) (a1_ : List (Int)) : Option ((Int) × ((Bool) × (List (Int)))) := (T_slices_partitionOrdered_int a2_ a3_ a4_ a1_).ev

noncomputable def A_slices_partitionOrdered_int : Sh := (.cons (.arr 64) (.cons (.dat (.int .i64)) (.cons (.dat (.int .i64)) (.cons (.dat (.int .i64)) .nil))))

noncomputable def I_slices_partitionOrdered_int : List (Nat × OSh) := [(64, .arr 3 (.int .i64))]

noncomputable def K_slices_partitionOrdered_int : RetK := { acts := [], res := [.tmp 8, .tmp 9], sh := (.cons (.dat (.int .i64)) (.cons (.dat .bool) .nil)), obs := [(64, .arr 3 (.int .i64))], pins := [(0, 64)] }

noncomputable def D_slices_partitionOrdered_int : FD where
  A := A_slices_partitionOrdered_int
  ins := I_slices_partitionOrdered_int
  lend := [.arg 0]
  R := (Int) × ((Bool) × (List (Int)))
  F := fun x => F_slices_partitionOrdered_int x.1.2.1 x.1.2.2.1 x.1.2.2.2.1 x.2.1
  emb := fun r => ([.dat (.int .i64) r.1, .dat .bool r.2.1], [(64, .arr 3 (.int .i64) r.2.2)])

noncomputable def E_slices_partitionOrdered_int : Env := envOf [(201, D_cmp_Less_int)]

noncomputable def Z_slices_partitionOrdered_int : Nat → Nat → List Nat := fun _ _ => []

noncomputable def O_slices_partitionOrdered_int : List (Nat × LD) := [(0, DL_slices_partitionOrdered_int_0), (2, DL_slices_partitionOrdered_int_2), (6, DL_slices_partitionOrdered_int_6), (8, DL_slices_partitionOrdered_int_8), (4, DL_slices_partitionOrdered_int_4)]

noncomputable def C_slices_partitionOrdered_int : Code := (f203.body).getD .skip

/-! ### 187 slices.pdqsortOrdered[int] -/

noncomputable def S_slices_pdqsortOrdered_int_0 (rec_ : (Int) → (Int) → (Int) → (List (Int)) → Option (List (Int))) (_k : Unit) (v : (Int) × ((Int) × ((Int) × ((Bool) × ((Bool) × (List (Int))))))) : Tr (((Int) × ((Int) × ((Int) × ((Bool) × ((Bool) × (List (Int))))))) ⊕ (List (Int))) :=
  .t (decide ((IntKind.wrap .i64 (v.2.1 - v.1)) ≤ (12 : Int)))
    (.c (List (Int)) (F_slices_insertionSortOrdered_int v.1 v.2.1 v.2.2.2.2.2) fun r7_ =>
      .l (.inr r7_))
    (.t (v.2.2.1 == (0 : Int))
        (.c (List (Int)) (F_slices_heapSortOrdered_int v.1 v.2.1 v.2.2.2.2.2) fun r8_ =>
          .l (.inr r8_))
        (.t (!v.2.2.2.1)
            (.c (List (Int)) (F_slices_breakPatternsOrdered_int v.1 v.2.1 v.2.2.2.2.2) fun r9_ =>
              .c ((Int) × (Int)) (F_slices_choosePivotOrdered_int r9_ v.1 v.2.1) fun r10_ =>
              .t (r10_.2 == (2 : Int))
                (.c (List (Int)) (F_slices_reverseRangeOrdered_int v.1 v.2.1 r9_) fun r11_ =>
                  .t v.2.2.2.1
                    (.t v.2.2.2.2.1
                        (.t ((1 : Int) == (1 : Int))
                            (.c ((Bool) × (List (Int))) (F_slices_partialInsertionSortOrdered_int v.1 v.2.1 r11_) fun r12_ =>
                              .t r12_.1
                                (.l (.inr r12_.2))
                                (.t (decide ((0 : Int) < v.1))
                                    (.g (inR (IntKind.wrap .i64 (v.1 - (1 : Int))) (List.length r12_.2)) <|
                                      .g (decide ((Int.toNat (IntKind.wrap .i64 (v.1 - (1 : Int)))) < List.length r12_.2)) <|
                                      .g (inR (IntKind.wrap .i64 ((IntKind.wrap .i64 (v.2.1 - (1 : Int))) - (IntKind.wrap .i64 (r10_.1 - v.1)))) (List.length r12_.2)) <|
                                      .g (decide ((Int.toNat (IntKind.wrap .i64 ((IntKind.wrap .i64 (v.2.1 - (1 : Int))) - (IntKind.wrap .i64 (r10_.1 - v.1))))) < List.length r12_.2)) <|
                                      .c (Bool) (F_cmp_Less_int (List.getD r12_.2 (Int.toNat (IntKind.wrap .i64 (v.1 - (1 : Int)))) (0 : Int)) (List.getD r12_.2 (Int.toNat (IntKind.wrap .i64 ((IntKind.wrap .i64 (v.2.1 - (1 : Int))) - (IntKind.wrap .i64 (r10_.1 - v.1))))) (0 : Int))) fun r13_ =>
                                      .t (!r13_)
                                        (.c ((Int) × (List (Int))) (F_slices_partitionEqualOrdered_int v.1 v.2.1 (IntKind.wrap .i64 ((IntKind.wrap .i64 (v.2.1 - (1 : Int))) - (IntKind.wrap .i64 (r10_.1 - v.1)))) r12_.2) fun r14_ =>
                                          .l (.inl (r14_.1, (v.2.1, ((IntKind.wrap .i64 (v.2.2.1 - (1 : Int))), (v.2.2.2.1, (v.2.2.2.2.1, r14_.2)))))))
                                        (.c ((Int) × ((Bool) × (List (Int)))) (F_slices_partitionOrdered_int v.1 v.2.1 (IntKind.wrap .i64 ((IntKind.wrap .i64 (v.2.1 - (1 : Int))) - (IntKind.wrap .i64 (r10_.1 - v.1)))) r12_.2) fun r15_ =>
                                          .g (!decide ((8 : Int) = 0)) <|
                                          .t (decide ((IntKind.wrap .i64 (r15_.1 - v.1)) < (IntKind.wrap .i64 (v.2.1 - r15_.1))))
                                            (.c (List (Int)) (rec_ v.1 r15_.1 (IntKind.wrap .i64 (v.2.2.1 - (1 : Int))) r15_.2.2) fun r16_ =>
                                              .l (.inl ((IntKind.wrap .i64 (r15_.1 + (1 : Int))), (v.2.1, ((IntKind.wrap .i64 (v.2.2.1 - (1 : Int))), ((decide ((IntKind.wrap .i64 (Int.tdiv (IntKind.wrap .i64 (v.2.1 - v.1)) (8 : Int))) ≤ (IntKind.wrap .i64 (r15_.1 - v.1)))), (r15_.2.1, r16_)))))))
                                            (.c (List (Int)) (rec_ (IntKind.wrap .i64 (r15_.1 + (1 : Int))) v.2.1 (IntKind.wrap .i64 (v.2.2.1 - (1 : Int))) r15_.2.2) fun r17_ =>
                                              .l (.inl (v.1, (r15_.1, ((IntKind.wrap .i64 (v.2.2.1 - (1 : Int))), ((decide ((IntKind.wrap .i64 (Int.tdiv (IntKind.wrap .i64 (v.2.1 - v.1)) (8 : Int))) ≤ (IntKind.wrap .i64 (v.2.1 - r15_.1)))), (r15_.2.1, r17_)))))))))
                                    (.c ((Int) × ((Bool) × (List (Int)))) (F_slices_partitionOrdered_int v.1 v.2.1 (IntKind.wrap .i64 ((IntKind.wrap .i64 (v.2.1 - (1 : Int))) - (IntKind.wrap .i64 (r10_.1 - v.1)))) r12_.2) fun r18_ =>
                                      .g (!decide ((8 : Int) = 0)) <|
                                      .t (decide ((IntKind.wrap .i64 (r18_.1 - v.1)) < (IntKind.wrap .i64 (v.2.1 - r18_.1))))
                                        (.c (List (Int)) (rec_ v.1 r18_.1 (IntKind.wrap .i64 (v.2.2.1 - (1 : Int))) r18_.2.2) fun r19_ =>
                                          .l (.inl ((IntKind.wrap .i64 (r18_.1 + (1 : Int))), (v.2.1, ((IntKind.wrap .i64 (v.2.2.1 - (1 : Int))), ((decide ((IntKind.wrap .i64 (Int.tdiv (IntKind.wrap .i64 (v.2.1 - v.1)) (8 : Int))) ≤ (IntKind.wrap .i64 (r18_.1 - v.1)))), (r18_.2.1, r19_)))))))
                                        (.c (List (Int)) (rec_ (IntKind.wrap .i64 (r18_.1 + (1 : Int))) v.2.1 (IntKind.wrap .i64 (v.2.2.1 - (1 : Int))) r18_.2.2) fun r20_ =>
                                          .l (.inl (v.1, (r18_.1, ((IntKind.wrap .i64 (v.2.2.1 - (1 : Int))), ((decide ((IntKind.wrap .i64 (Int.tdiv (IntKind.wrap .i64 (v.2.1 - v.1)) (8 : Int))) ≤ (IntKind.wrap .i64 (v.2.1 - r18_.1)))), (r18_.2.1, r20_))))))))))
                            (.t (decide ((0 : Int) < v.1))
                                (.g (inR (IntKind.wrap .i64 (v.1 - (1 : Int))) (List.length r11_)) <|
                                  .g (decide ((Int.toNat (IntKind.wrap .i64 (v.1 - (1 : Int)))) < List.length r11_)) <|
                                  .g (inR (IntKind.wrap .i64 ((IntKind.wrap .i64 (v.2.1 - (1 : Int))) - (IntKind.wrap .i64 (r10_.1 - v.1)))) (List.length r11_)) <|
                                  .g (decide ((Int.toNat (IntKind.wrap .i64 ((IntKind.wrap .i64 (v.2.1 - (1 : Int))) - (IntKind.wrap .i64 (r10_.1 - v.1))))) < List.length r11_)) <|
                                  .c (Bool) (F_cmp_Less_int (List.getD r11_ (Int.toNat (IntKind.wrap .i64 (v.1 - (1 : Int)))) (0 : Int)) (List.getD r11_ (Int.toNat (IntKind.wrap .i64 ((IntKind.wrap .i64 (v.2.1 - (1 : Int))) - (IntKind.wrap .i64 (r10_.1 - v.1))))) (0 : Int))) fun r21_ =>
                                  .t (!r21_)
                                    (.c ((Int) × (List (Int))) (F_slices_partitionEqualOrdered_int v.1 v.2.1 (IntKind.wrap .i64 ((IntKind.wrap .i64 (v.2.1 - (1 : Int))) - (IntKind.wrap .i64 (r10_.1 - v.1)))) r11_) fun r22_ =>
                                      .l (.inl (r22_.1, (v.2.1, ((IntKind.wrap .i64 (v.2.2.1 - (1 : Int))), (v.2.2.2.1, (v.2.2.2.2.1, r22_.2)))))))
                                    (.c ((Int) × ((Bool) × (List (Int)))) (F_slices_partitionOrdered_int v.1 v.2.1 (IntKind.wrap .i64 ((IntKind.wrap .i64 (v.2.1 - (1 : Int))) - (IntKind.wrap .i64 (r10_.1 - v.1)))) r11_) fun r23_ =>
                                      .g (!decide ((8 : Int) = 0)) <|
                                      .t (decide ((IntKind.wrap .i64 (r23_.1 - v.1)) < (IntKind.wrap .i64 (v.2.1 - r23_.1))))
                                        (.c (List (Int)) (rec_ v.1 r23_.1 (IntKind.wrap .i64 (v.2.2.1 - (1 : Int))) r23_.2.2) fun r24_ =>
                                          .l (.inl ((IntKind.wrap .i64 (r23_.1 + (1 : Int))), (v.2.1, ((IntKind.wrap .i64 (v.2.2.1 - (1 : Int))), ((decide ((IntKind.wrap .i64 (Int.tdiv (IntKind.wrap .i64 (v.2.1 - v.1)) (8 : Int))) ≤ (IntKind.wrap .i64 (r23_.1 - v.1)))), (r23_.2.1, r24_)))))))
                                        (.c (List (Int)) (rec_ (IntKind.wrap .i64 (r23_.1 + (1 : Int))) v.2.1 (IntKind.wrap .i64 (v.2.2.1 - (1 : Int))) r23_.2.2) fun r25_ =>
                                          .l (.inl (v.1, (r23_.1, ((IntKind.wrap .i64 (v.2.2.1 - (1 : Int))), ((decide ((IntKind.wrap .i64 (Int.tdiv (IntKind.wrap .i64 (v.2.1 - v.1)) (8 : Int))) ≤ (IntKind.wrap .i64 (v.2.1 - r23_.1)))), (r23_.2.1, r25_)))))))))
                                (.c ((Int) × ((Bool) × (List (Int)))) (F_slices_partitionOrdered_int v.1 v.2.1 (IntKind.wrap .i64 ((IntKind.wrap .i64 (v.2.1 - (1 : Int))) - (IntKind.wrap .i64 (r10_.1 - v.1)))) r11_) fun r26_ =>
                                  .g (!decide ((8 : Int) = 0)) <|
                                  .t (decide ((IntKind.wrap .i64 (r26_.1 - v.1)) < (IntKind.wrap .i64 (v.2.1 - r26_.1))))
                                    (.c (List (Int)) (rec_ v.1 r26_.1 (IntKind.wrap .i64 (v.2.2.1 - (1 : Int))) r26_.2.2) fun r27_ =>
                                      .l (.inl ((IntKind.wrap .i64 (r26_.1 + (1 : Int))), (v.2.1, ((IntKind.wrap .i64 (v.2.2.1 - (1 : Int))), ((decide ((IntKind.wrap .i64 (Int.tdiv (IntKind.wrap .i64 (v.2.1 - v.1)) (8 : Int))) ≤ (IntKind.wrap .i64 (r26_.1 - v.1)))), (r26_.2.1, r27_)))))))
                                    (.c (List (Int)) (rec_ (IntKind.wrap .i64 (r26_.1 + (1 : Int))) v.2.1 (IntKind.wrap .i64 (v.2.2.1 - (1 : Int))) r26_.2.2) fun r28_ =>
                                      .l (.inl (v.1, (r26_.1, ((IntKind.wrap .i64 (v.2.2.1 - (1 : Int))), ((decide ((IntKind.wrap .i64 (Int.tdiv (IntKind.wrap .i64 (v.2.1 - v.1)) (8 : Int))) ≤ (IntKind.wrap .i64 (v.2.1 - r26_.1)))), (r26_.2.1, r28_))))))))))
                        (.t (decide ((0 : Int) < v.1))
                            (.g (inR (IntKind.wrap .i64 (v.1 - (1 : Int))) (List.length r11_)) <|
                              .g (decide ((Int.toNat (IntKind.wrap .i64 (v.1 - (1 : Int)))) < List.length r11_)) <|
                              .g (inR (IntKind.wrap .i64 ((IntKind.wrap .i64 (v.2.1 - (1 : Int))) - (IntKind.wrap .i64 (r10_.1 - v.1)))) (List.length r11_)) <|
                              .g (decide ((Int.toNat (IntKind.wrap .i64 ((IntKind.wrap .i64 (v.2.1 - (1 : Int))) - (IntKind.wrap .i64 (r10_.1 - v.1))))) < List.length r11_)) <|
                              .c (Bool) (F_cmp_Less_int (List.getD r11_ (Int.toNat (IntKind.wrap .i64 (v.1 - (1 : Int)))) (0 : Int)) (List.getD r11_ (Int.toNat (IntKind.wrap .i64 ((IntKind.wrap .i64 (v.2.1 - (1 : Int))) - (IntKind.wrap .i64 (r10_.1 - v.1))))) (0 : Int))) fun r29_ =>
                              .t (!r29_)
                                (.c ((Int) × (List (Int))) (F_slices_partitionEqualOrdered_int v.1 v.2.1 (IntKind.wrap .i64 ((IntKind.wrap .i64 (v.2.1 - (1 : Int))) - (IntKind.wrap .i64 (r10_.1 - v.1)))) r11_) fun r30_ =>
                                  .l (.inl (r30_.1, (v.2.1, ((IntKind.wrap .i64 (v.2.2.1 - (1 : Int))), (v.2.2.2.1, (v.2.2.2.2.1, r30_.2)))))))
                                (.c ((Int) × ((Bool) × (List (Int)))) (F_slices_partitionOrdered_int v.1 v.2.1 (IntKind.wrap .i64 ((IntKind.wrap .i64 (v.2.1 - (1 : Int))) - (IntKind.wrap .i64 (r10_.1 - v.1)))) r11_) fun r31_ =>
                                  .g (!decide ((8 : Int) = 0)) <|
                                  .t (decide ((IntKind.wrap .i64 (r31_.1 - v.1)) < (IntKind.wrap .i64 (v.2.1 - r31_.1))))
                                    (.c (List (Int)) (rec_ v.1 r31_.1 (IntKind.wrap .i64 (v.2.2.1 - (1 : Int))) r31_.2.2) fun r32_ =>
                                      .l (.inl ((IntKind.wrap .i64 (r31_.1 + (1 : Int))), (v.2.1, ((IntKind.wrap .i64 (v.2.2.1 - (1 : Int))), ((decide ((IntKind.wrap .i64 (Int.tdiv (IntKind.wrap .i64 (v.2.1 - v.1)) (8 : Int))) ≤ (IntKind.wrap .i64 (r31_.1 - v.1)))), (r31_.2.1, r32_)))))))
                                    (.c (List (Int)) (rec_ (IntKind.wrap .i64 (r31_.1 + (1 : Int))) v.2.1 (IntKind.wrap .i64 (v.2.2.1 - (1 : Int))) r31_.2.2) fun r33_ =>
                                      .l (.inl (v.1, (r31_.1, ((IntKind.wrap .i64 (v.2.2.1 - (1 : Int))), ((decide ((IntKind.wrap .i64 (Int.tdiv (IntKind.wrap .i64 (v.2.1 - v.1)) (8 : Int))) ≤ (IntKind.wrap .i64 (v.2.1 - r31_.1)))), (r31_.2.1, r33_)))))))))
                            (.c ((Int) × ((Bool) × (List (Int)))) (F_slices_partitionOrdered_int v.1 v.2.1 (IntKind.wrap .i64 ((IntKind.wrap .i64 (v.2.1 - (1 : Int))) - (IntKind.wrap .i64 (r10_.1 - v.1)))) r11_) fun r34_ =>
                              .g (!decide ((8 : Int) = 0)) <|
                              .t (decide ((IntKind.wrap .i64 (r34_.1 - v.1)) < (IntKind.wrap .i64 (v.2.1 - r34_.1))))
                                (.c (List (Int)) (rec_ v.1 r34_.1 (IntKind.wrap .i64 (v.2.2.1 - (1 : Int))) r34_.2.2) fun r35_ =>
                                  .l (.inl ((IntKind.wrap .i64 (r34_.1 + (1 : Int))), (v.2.1, ((IntKind.wrap .i64 (v.2.2.1 - (1 : Int))), ((decide ((IntKind.wrap .i64 (Int.tdiv (IntKind.wrap .i64 (v.2.1 - v.1)) (8 : Int))) ≤ (IntKind.wrap .i64 (r34_.1 - v.1)))), (r34_.2.1, r35_)))))))
                                (.c (List (Int)) (rec_ (IntKind.wrap .i64 (r34_.1 + (1 : Int))) v.2.1 (IntKind.wrap .i64 (v.2.2.1 - (1 : Int))) r34_.2.2) fun r36_ =>
                                  .l (.inl (v.1, (r34_.1, ((IntKind.wrap .i64 (v.2.2.1 - (1 : Int))), ((decide ((IntKind.wrap .i64 (Int.tdiv (IntKind.wrap .i64 (v.2.1 - v.1)) (8 : Int))) ≤ (IntKind.wrap .i64 (v.2.1 - r34_.1)))), (r34_.2.1, r36_))))))))))
                    (.t (decide ((0 : Int) < v.1))
                        (.g (inR (IntKind.wrap .i64 (v.1 - (1 : Int))) (List.length r11_)) <|
                          .g (decide ((Int.toNat (IntKind.wrap .i64 (v.1 - (1 : Int)))) < List.length r11_)) <|
                          .g (inR (IntKind.wrap .i64 ((IntKind.wrap .i64 (v.2.1 - (1 : Int))) - (IntKind.wrap .i64 (r10_.1 - v.1)))) (List.length r11_)) <|
                          .g (decide ((Int.toNat (IntKind.wrap .i64 ((IntKind.wrap .i64 (v.2.1 - (1 : Int))) - (IntKind.wrap .i64 (r10_.1 - v.1))))) < List.length r11_)) <|
                          .c (Bool) (F_cmp_Less_int (List.getD r11_ (Int.toNat (IntKind.wrap .i64 (v.1 - (1 : Int)))) (0 : Int)) (List.getD r11_ (Int.toNat (IntKind.wrap .i64 ((IntKind.wrap .i64 (v.2.1 - (1 : Int))) - (IntKind.wrap .i64 (r10_.1 - v.1))))) (0 : Int))) fun r37_ =>
                          .t (!r37_)
                            (.c ((Int) × (List (Int))) (F_slices_partitionEqualOrdered_int v.1 v.2.1 (IntKind.wrap .i64 ((IntKind.wrap .i64 (v.2.1 - (1 : Int))) - (IntKind.wrap .i64 (r10_.1 - v.1)))) r11_) fun r38_ =>
                              .l (.inl (r38_.1, (v.2.1, ((IntKind.wrap .i64 (v.2.2.1 - (1 : Int))), (v.2.2.2.1, (v.2.2.2.2.1, r38_.2)))))))
                            (.c ((Int) × ((Bool) × (List (Int)))) (F_slices_partitionOrdered_int v.1 v.2.1 (IntKind.wrap .i64 ((IntKind.wrap .i64 (v.2.1 - (1 : Int))) - (IntKind.wrap .i64 (r10_.1 - v.1)))) r11_) fun r39_ =>
                              .g (!decide ((8 : Int) = 0)) <|
                              .t (decide ((IntKind.wrap .i64 (r39_.1 - v.1)) < (IntKind.wrap .i64 (v.2.1 - r39_.1))))
                                (.c (List (Int)) (rec_ v.1 r39_.1 (IntKind.wrap .i64 (v.2.2.1 - (1 : Int))) r39_.2.2) fun r40_ =>
                                  .l (.inl ((IntKind.wrap .i64 (r39_.1 + (1 : Int))), (v.2.1, ((IntKind.wrap .i64 (v.2.2.1 - (1 : Int))), ((decide ((IntKind.wrap .i64 (Int.tdiv (IntKind.wrap .i64 (v.2.1 - v.1)) (8 : Int))) ≤ (IntKind.wrap .i64 (r39_.1 - v.1)))), (r39_.2.1, r40_)))))))
                                (.c (List (Int)) (rec_ (IntKind.wrap .i64 (r39_.1 + (1 : Int))) v.2.1 (IntKind.wrap .i64 (v.2.2.1 - (1 : Int))) r39_.2.2) fun r41_ =>
                                  .l (.inl (v.1, (r39_.1, ((IntKind.wrap .i64 (v.2.2.1 - (1 : Int))), ((decide ((IntKind.wrap .i64 (Int.tdiv (IntKind.wrap .i64 (v.2.1 - v.1)) (8 : Int))) ≤ (IntKind.wrap .i64 (v.2.1 - r39_.1)))), (r39_.2.1, r41_)))))))))
                        (.c ((Int) × ((Bool) × (List (Int)))) (F_slices_partitionOrdered_int v.1 v.2.1 (IntKind.wrap .i64 ((IntKind.wrap .i64 (v.2.1 - (1 : Int))) - (IntKind.wrap .i64 (r10_.1 - v.1)))) r11_) fun r42_ =>
                          .g (!decide ((8 : Int) = 0)) <|
                          .t (decide ((IntKind.wrap .i64 (r42_.1 - v.1)) < (IntKind.wrap .i64 (v.2.1 - r42_.1))))
                            (.c (List (Int)) (rec_ v.1 r42_.1 (IntKind.wrap .i64 (v.2.2.1 - (1 : Int))) r42_.2.2) fun r43_ =>
                              .l (.inl ((IntKind.wrap .i64 (r42_.1 + (1 : Int))), (v.2.1, ((IntKind.wrap .i64 (v.2.2.1 - (1 : Int))), ((decide ((IntKind.wrap .i64 (Int.tdiv (IntKind.wrap .i64 (v.2.1 - v.1)) (8 : Int))) ≤ (IntKind.wrap .i64 (r42_.1 - v.1)))), (r42_.2.1, r43_)))))))
                            (.c (List (Int)) (rec_ (IntKind.wrap .i64 (r42_.1 + (1 : Int))) v.2.1 (IntKind.wrap .i64 (v.2.2.1 - (1 : Int))) r42_.2.2) fun r44_ =>
                              .l (.inl (v.1, (r42_.1, ((IntKind.wrap .i64 (v.2.2.1 - (1 : Int))), ((decide ((IntKind.wrap .i64 (Int.tdiv (IntKind.wrap .i64 (v.2.1 - v.1)) (8 : Int))) ≤ (IntKind.wrap .i64 (v.2.1 - r42_.1)))), (r42_.2.1, r44_))))))))))
                (.t v.2.2.2.1
                    (.t v.2.2.2.2.1
                        (.t (r10_.2 == (1 : Int))
                            (.c ((Bool) × (List (Int))) (F_slices_partialInsertionSortOrdered_int v.1 v.2.1 r9_) fun r45_ =>
                              .t r45_.1
                                (.l (.inr r45_.2))
                                (.t (decide ((0 : Int) < v.1))
                                    (.g (inR (IntKind.wrap .i64 (v.1 - (1 : Int))) (List.length r45_.2)) <|
                                      .g (decide ((Int.toNat (IntKind.wrap .i64 (v.1 - (1 : Int)))) < List.length r45_.2)) <|
                                      .g (inR r10_.1 (List.length r45_.2)) <|
                                      .g (decide ((Int.toNat r10_.1) < List.length r45_.2)) <|
                                      .c (Bool) (F_cmp_Less_int (List.getD r45_.2 (Int.toNat (IntKind.wrap .i64 (v.1 - (1 : Int)))) (0 : Int)) (List.getD r45_.2 (Int.toNat r10_.1) (0 : Int))) fun r46_ =>
                                      .t (!r46_)
                                        (.c ((Int) × (List (Int))) (F_slices_partitionEqualOrdered_int v.1 v.2.1 r10_.1 r45_.2) fun r47_ =>
                                          .l (.inl (r47_.1, (v.2.1, ((IntKind.wrap .i64 (v.2.2.1 - (1 : Int))), (v.2.2.2.1, (v.2.2.2.2.1, r47_.2)))))))
                                        (.c ((Int) × ((Bool) × (List (Int)))) (F_slices_partitionOrdered_int v.1 v.2.1 r10_.1 r45_.2) fun r48_ =>
                                          .g (!decide ((8 : Int) = 0)) <|
                                          .t (decide ((IntKind.wrap .i64 (r48_.1 - v.1)) < (IntKind.wrap .i64 (v.2.1 - r48_.1))))
                                            (.c (List (Int)) (rec_ v.1 r48_.1 (IntKind.wrap .i64 (v.2.2.1 - (1 : Int))) r48_.2.2) fun r49_ =>
                                              .l (.inl ((IntKind.wrap .i64 (r48_.1 + (1 : Int))), (v.2.1, ((IntKind.wrap .i64 (v.2.2.1 - (1 : Int))), ((decide ((IntKind.wrap .i64 (Int.tdiv (IntKind.wrap .i64 (v.2.1 - v.1)) (8 : Int))) ≤ (IntKind.wrap .i64 (r48_.1 - v.1)))), (r48_.2.1, r49_)))))))
                                            (.c (List (Int)) (rec_ (IntKind.wrap .i64 (r48_.1 + (1 : Int))) v.2.1 (IntKind.wrap .i64 (v.2.2.1 - (1 : Int))) r48_.2.2) fun r50_ =>
                                              .l (.inl (v.1, (r48_.1, ((IntKind.wrap .i64 (v.2.2.1 - (1 : Int))), ((decide ((IntKind.wrap .i64 (Int.tdiv (IntKind.wrap .i64 (v.2.1 - v.1)) (8 : Int))) ≤ (IntKind.wrap .i64 (v.2.1 - r48_.1)))), (r48_.2.1, r50_)))))))))
                                    (.c ((Int) × ((Bool) × (List (Int)))) (F_slices_partitionOrdered_int v.1 v.2.1 r10_.1 r45_.2) fun r51_ =>
                                      .g (!decide ((8 : Int) = 0)) <|
                                      .t (decide ((IntKind.wrap .i64 (r51_.1 - v.1)) < (IntKind.wrap .i64 (v.2.1 - r51_.1))))
                                        (.c (List (Int)) (rec_ v.1 r51_.1 (IntKind.wrap .i64 (v.2.2.1 - (1 : Int))) r51_.2.2) fun r52_ =>
                                          .l (.inl ((IntKind.wrap .i64 (r51_.1 + (1 : Int))), (v.2.1, ((IntKind.wrap .i64 (v.2.2.1 - (1 : Int))), ((decide ((IntKind.wrap .i64 (Int.tdiv (IntKind.wrap .i64 (v.2.1 - v.1)) (8 : Int))) ≤ (IntKind.wrap .i64 (r51_.1 - v.1)))), (r51_.2.1, r52_)))))))
                                        (.c (List (Int)) (rec_ (IntKind.wrap .i64 (r51_.1 + (1 : Int))) v.2.1 (IntKind.wrap .i64 (v.2.2.1 - (1 : Int))) r51_.2.2) fun r53_ =>
                                          .l (.inl (v.1, (r51_.1, ((IntKind.wrap .i64 (v.2.2.1 - (1 : Int))), ((decide ((IntKind.wrap .i64 (Int.tdiv (IntKind.wrap .i64 (v.2.1 - v.1)) (8 : Int))) ≤ (IntKind.wrap .i64 (v.2.1 - r51_.1)))), (r51_.2.1, r53_))))))))))
                            (.t (decide ((0 : Int) < v.1))
                                (.g (inR (IntKind.wrap .i64 (v.1 - (1 : Int))) (List.length r9_)) <|
                                  .g (decide ((Int.toNat (IntKind.wrap .i64 (v.1 - (1 : Int)))) < List.length r9_)) <|
                                  .g (inR r10_.1 (List.length r9_)) <|
                                  .g (decide ((Int.toNat r10_.1) < List.length r9_)) <|
                                  .c (Bool) (F_cmp_Less_int (List.getD r9_ (Int.toNat (IntKind.wrap .i64 (v.1 - (1 : Int)))) (0 : Int)) (List.getD r9_ (Int.toNat r10_.1) (0 : Int))) fun r54_ =>
                                  .t (!r54_)
                                    (.c ((Int) × (List (Int))) (F_slices_partitionEqualOrdered_int v.1 v.2.1 r10_.1 r9_) fun r55_ =>
                                      .l (.inl (r55_.1, (v.2.1, ((IntKind.wrap .i64 (v.2.2.1 - (1 : Int))), (v.2.2.2.1, (v.2.2.2.2.1, r55_.2)))))))
                                    (.c ((Int) × ((Bool) × (List (Int)))) (F_slices_partitionOrdered_int v.1 v.2.1 r10_.1 r9_) fun r56_ =>
                                      .g (!decide ((8 : Int) = 0)) <|
                                      .t (decide ((IntKind.wrap .i64 (r56_.1 - v.1)) < (IntKind.wrap .i64 (v.2.1 - r56_.1))))
                                        (.c (List (Int)) (rec_ v.1 r56_.1 (IntKind.wrap .i64 (v.2.2.1 - (1 : Int))) r56_.2.2) fun r57_ =>
                                          .l (.inl ((IntKind.wrap .i64 (r56_.1 + (1 : Int))), (v.2.1, ((IntKind.wrap .i64 (v.2.2.1 - (1 : Int))), ((decide ((IntKind.wrap .i64 (Int.tdiv (IntKind.wrap .i64 (v.2.1 - v.1)) (8 : Int))) ≤ (IntKind.wrap .i64 (r56_.1 - v.1)))), (r56_.2.1, r57_)))))))
                                        (.c (List (Int)) (rec_ (IntKind.wrap .i64 (r56_.1 + (1 : Int))) v.2.1 (IntKind.wrap .i64 (v.2.2.1 - (1 : Int))) r56_.2.2) fun r58_ =>
                                          .l (.inl (v.1, (r56_.1, ((IntKind.wrap .i64 (v.2.2.1 - (1 : Int))), ((decide ((IntKind.wrap .i64 (Int.tdiv (IntKind.wrap .i64 (v.2.1 - v.1)) (8 : Int))) ≤ (IntKind.wrap .i64 (v.2.1 - r56_.1)))), (r56_.2.1, r58_)))))))))
                                (.c ((Int) × ((Bool) × (List (Int)))) (F_slices_partitionOrdered_int v.1 v.2.1 r10_.1 r9_) fun r59_ =>
                                  .g (!decide ((8 : Int) = 0)) <|
                                  .t (decide ((IntKind.wrap .i64 (r59_.1 - v.1)) < (IntKind.wrap .i64 (v.2.1 - r59_.1))))
                                    (.c (List (Int)) (rec_ v.1 r59_.1 (IntKind.wrap .i64 (v.2.2.1 - (1 : Int))) r59_.2.2) fun r60_ =>
                                      .l (.inl ((IntKind.wrap .i64 (r59_.1 + (1 : Int))), (v.2.1, ((IntKind.wrap .i64 (v.2.2.1 - (1 : Int))), ((decide ((IntKind.wrap .i64 (Int.tdiv (IntKind.wrap .i64 (v.2.1 - v.1)) (8 : Int))) ≤ (IntKind.wrap .i64 (r59_.1 - v.1)))), (r59_.2.1, r60_)))))))
                                    (.c (List (Int)) (rec_ (IntKind.wrap .i64 (r59_.1 + (1 : Int))) v.2.1 (IntKind.wrap .i64 (v.2.2.1 - (1 : Int))) r59_.2.2) fun r61_ =>
                                      .l (.inl (v.1, (r59_.1, ((IntKind.wrap .i64 (v.2.2.1 - (1 : Int))), ((decide ((IntKind.wrap .i64 (Int.tdiv (IntKind.wrap .i64 (v.2.1 - v.1)) (8 : Int))) ≤ (IntKind.wrap .i64 (v.2.1 - r59_.1)))), (r59_.2.1, r61_))))))))))
                        (.t (decide ((0 : Int) < v.1))
                            (.g (inR (IntKind.wrap .i64 (v.1 - (1 : Int))) (List.length r9_)) <|
                              .g (decide ((Int.toNat (IntKind.wrap .i64 (v.1 - (1 : Int)))) < List.length r9_)) <|
                              .g (inR r10_.1 (List.length r9_)) <|
                              .g (decide ((Int.toNat r10_.1) < List.length r9_)) <|
                              .c (Bool) (F_cmp_Less_int (List.getD r9_ (Int.toNat (IntKind.wrap .i64 (v.1 - (1 : Int)))) (0 : Int)) (List.getD r9_ (Int.toNat r10_.1) (0 : Int))) fun r62_ =>
                              .t (!r62_)
                                (.c ((Int) × (List (Int))) (F_slices_partitionEqualOrdered_int v.1 v.2.1 r10_.1 r9_) fun r63_ =>
                                  .l (.inl (r63_.1, (v.2.1, ((IntKind.wrap .i64 (v.2.2.1 - (1 : Int))), (v.2.2.2.1, (v.2.2.2.2.1, r63_.2)))))))
                                (.c ((Int) × ((Bool) × (List (Int)))) (F_slices_partitionOrdered_int v.1 v.2.1 r10_.1 r9_) fun r64_ =>
                                  .g (!decide ((8 : Int) = 0)) <|
                                  .t (decide ((IntKind.wrap .i64 (r64_.1 - v.1)) < (IntKind.wrap .i64 (v.2.1 - r64_.1))))
                                    (.c (List (Int)) (rec_ v.1 r64_.1 (IntKind.wrap .i64 (v.2.2.1 - (1 : Int))) r64_.2.2) fun r65_ =>
                                      .l (.inl ((IntKind.wrap .i64 (r64_.1 + (1 : Int))), (v.2.1, ((IntKind.wrap .i64 (v.2.2.1 - (1 : Int))), ((decide ((IntKind.wrap .i64 (Int.tdiv (IntKind.wrap .i64 (v.2.1 - v.1)) (8 : Int))) ≤ (IntKind.wrap .i64 (r64_.1 - v.1)))), (r64_.2.1, r65_)))))))
                                    (.c (List (Int)) (rec_ (IntKind.wrap .i64 (r64_.1 + (1 : Int))) v.2.1 (IntKind.wrap .i64 (v.2.2.1 - (1 : Int))) r64_.2.2) fun r66_ =>
                                      .l (.inl (v.1, (r64_.1, ((IntKind.wrap .i64 (v.2.2.1 - (1 : Int))), ((decide ((IntKind.wrap .i64 (Int.tdiv (IntKind.wrap .i64 (v.2.1 - v.1)) (8 : Int))) ≤ (IntKind.wrap .i64 (v.2.1 - r64_.1)))), (r64_.2.1, r66_)))))))))
                            (.c ((Int) × ((Bool) × (List (Int)))) (F_slices_partitionOrdered_int v.1 v.2.1 r10_.1 r9_) fun r67_ =>
                              .g (!decide ((8 : Int) = 0)) <|
                              .t (decide ((IntKind.wrap .i64 (r67_.1 - v.1)) < (IntKind.wrap .i64 (v.2.1 - r67_.1))))
                                (.c (List (Int)) (rec_ v.1 r67_.1 (IntKind.wrap .i64 (v.2.2.1 - (1 : Int))) r67_.2.2) fun r68_ =>
                                  .l (.inl ((IntKind.wrap .i64 (r67_.1 + (1 : Int))), (v.2.1, ((IntKind.wrap .i64 (v.2.2.1 - (1 : Int))), ((decide ((IntKind.wrap .i64 (Int.tdiv (IntKind.wrap .i64 (v.2.1 - v.1)) (8 : Int))) ≤ (IntKind.wrap .i64 (r67_.1 - v.1)))), (r67_.2.1, r68_)))))))
                                (.c (List (Int)) (rec_ (IntKind.wrap .i64 (r67_.1 + (1 : Int))) v.2.1 (IntKind.wrap .i64 (v.2.2.1 - (1 : Int))) r67_.2.2) fun r69_ =>
                                  .l (.inl (v.1, (r67_.1, ((IntKind.wrap .i64 (v.2.2.1 - (1 : Int))), ((decide ((IntKind.wrap .i64 (Int.tdiv (IntKind.wrap .i64 (v.2.1 - v.1)) (8 : Int))) ≤ (IntKind.wrap .i64 (v.2.1 - r67_.1)))), (r67_.2.1, r69_))))))))))
                    (.t (decide ((0 : Int) < v.1))
                        (.g (inR (IntKind.wrap .i64 (v.1 - (1 : Int))) (List.length r9_)) <|
                          .g (decide ((Int.toNat (IntKind.wrap .i64 (v.1 - (1 : Int)))) < List.length r9_)) <|
                          .g (inR r10_.1 (List.length r9_)) <|
                          .g (decide ((Int.toNat r10_.1) < List.length r9_)) <|
                          .c (Bool) (F_cmp_Less_int (List.getD r9_ (Int.toNat (IntKind.wrap .i64 (v.1 - (1 : Int)))) (0 : Int)) (List.getD r9_ (Int.toNat r10_.1) (0 : Int))) fun r70_ =>
                          .t (!r70_)
                            (.c ((Int) × (List (Int))) (F_slices_partitionEqualOrdered_int v.1 v.2.1 r10_.1 r9_) fun r71_ =>
                              .l (.inl (r71_.1, (v.2.1, ((IntKind.wrap .i64 (v.2.2.1 - (1 : Int))), (v.2.2.2.1, (v.2.2.2.2.1, r71_.2)))))))
                            (.c ((Int) × ((Bool) × (List (Int)))) (F_slices_partitionOrdered_int v.1 v.2.1 r10_.1 r9_) fun r72_ =>
                              .g (!decide ((8 : Int) = 0)) <|
                              .t (decide ((IntKind.wrap .i64 (r72_.1 - v.1)) < (IntKind.wrap .i64 (v.2.1 - r72_.1))))
                                (.c (List (Int)) (rec_ v.1 r72_.1 (IntKind.wrap .i64 (v.2.2.1 - (1 : Int))) r72_.2.2) fun r73_ =>
                                  .l (.inl ((IntKind.wrap .i64 (r72_.1 + (1 : Int))), (v.2.1, ((IntKind.wrap .i64 (v.2.2.1 - (1 : Int))), ((decide ((IntKind.wrap .i64 (Int.tdiv (IntKind.wrap .i64 (v.2.1 - v.1)) (8 : Int))) ≤ (IntKind.wrap .i64 (r72_.1 - v.1)))), (r72_.2.1, r73_)))))))
                                (.c (List (Int)) (rec_ (IntKind.wrap .i64 (r72_.1 + (1 : Int))) v.2.1 (IntKind.wrap .i64 (v.2.2.1 - (1 : Int))) r72_.2.2) fun r74_ =>
                                  .l (.inl (v.1, (r72_.1, ((IntKind.wrap .i64 (v.2.2.1 - (1 : Int))), ((decide ((IntKind.wrap .i64 (Int.tdiv (IntKind.wrap .i64 (v.2.1 - v.1)) (8 : Int))) ≤ (IntKind.wrap .i64 (v.2.1 - r72_.1)))), (r72_.2.1, r74_)))))))))
                        (.c ((Int) × ((Bool) × (List (Int)))) (F_slices_partitionOrdered_int v.1 v.2.1 r10_.1 r9_) fun r75_ =>
                          .g (!decide ((8 : Int) = 0)) <|
                          .t (decide ((IntKind.wrap .i64 (r75_.1 - v.1)) < (IntKind.wrap .i64 (v.2.1 - r75_.1))))
                            (.c (List (Int)) (rec_ v.1 r75_.1 (IntKind.wrap .i64 (v.2.2.1 - (1 : Int))) r75_.2.2) fun r76_ =>
                              .l (.inl ((IntKind.wrap .i64 (r75_.1 + (1 : Int))), (v.2.1, ((IntKind.wrap .i64 (v.2.2.1 - (1 : Int))), ((decide ((IntKind.wrap .i64 (Int.tdiv (IntKind.wrap .i64 (v.2.1 - v.1)) (8 : Int))) ≤ (IntKind.wrap .i64 (r75_.1 - v.1)))), (r75_.2.1, r76_)))))))
                            (.c (List (Int)) (rec_ (IntKind.wrap .i64 (r75_.1 + (1 : Int))) v.2.1 (IntKind.wrap .i64 (v.2.2.1 - (1 : Int))) r75_.2.2) fun r77_ =>
                              .l (.inl (v.1, (r75_.1, ((IntKind.wrap .i64 (v.2.2.1 - (1 : Int))), ((decide ((IntKind.wrap .i64 (Int.tdiv (IntKind.wrap .i64 (v.2.1 - v.1)) (8 : Int))) ≤ (IntKind.wrap .i64 (v.2.1 - r75_.1)))), (r75_.2.1, r77_)))))))))))
            (.c ((Int) × (Int)) (F_slices_choosePivotOrdered_int v.2.2.2.2.2 v.1 v.2.1) fun r78_ =>
              .t (r78_.2 == (2 : Int))
                (.c (List (Int)) (F_slices_reverseRangeOrdered_int v.1 v.2.1 v.2.2.2.2.2) fun r79_ =>
                  .t v.2.2.2.1
                    (.t v.2.2.2.2.1
                        (.t ((1 : Int) == (1 : Int))
                            (.c ((Bool) × (List (Int))) (F_slices_partialInsertionSortOrdered_int v.1 v.2.1 r79_) fun r80_ =>
                              .t r80_.1
                                (.l (.inr r80_.2))
                                (.t (decide ((0 : Int) < v.1))
                                    (.g (inR (IntKind.wrap .i64 (v.1 - (1 : Int))) (List.length r80_.2)) <|
                                      .g (decide ((Int.toNat (IntKind.wrap .i64 (v.1 - (1 : Int)))) < List.length r80_.2)) <|
                                      .g (inR (IntKind.wrap .i64 ((IntKind.wrap .i64 (v.2.1 - (1 : Int))) - (IntKind.wrap .i64 (r78_.1 - v.1)))) (List.length r80_.2)) <|
                                      .g (decide ((Int.toNat (IntKind.wrap .i64 ((IntKind.wrap .i64 (v.2.1 - (1 : Int))) - (IntKind.wrap .i64 (r78_.1 - v.1))))) < List.length r80_.2)) <|
                                      .c (Bool) (F_cmp_Less_int (List.getD r80_.2 (Int.toNat (IntKind.wrap .i64 (v.1 - (1 : Int)))) (0 : Int)) (List.getD r80_.2 (Int.toNat (IntKind.wrap .i64 ((IntKind.wrap .i64 (v.2.1 - (1 : Int))) - (IntKind.wrap .i64 (r78_.1 - v.1))))) (0 : Int))) fun r81_ =>
                                      .t (!r81_)
                                        (.c ((Int) × (List (Int))) (F_slices_partitionEqualOrdered_int v.1 v.2.1 (IntKind.wrap .i64 ((IntKind.wrap .i64 (v.2.1 - (1 : Int))) - (IntKind.wrap .i64 (r78_.1 - v.1)))) r80_.2) fun r82_ =>
                                          .l (.inl (r82_.1, (v.2.1, (v.2.2.1, (v.2.2.2.1, (v.2.2.2.2.1, r82_.2)))))))
                                        (.c ((Int) × ((Bool) × (List (Int)))) (F_slices_partitionOrdered_int v.1 v.2.1 (IntKind.wrap .i64 ((IntKind.wrap .i64 (v.2.1 - (1 : Int))) - (IntKind.wrap .i64 (r78_.1 - v.1)))) r80_.2) fun r83_ =>
                                          .g (!decide ((8 : Int) = 0)) <|
                                          .t (decide ((IntKind.wrap .i64 (r83_.1 - v.1)) < (IntKind.wrap .i64 (v.2.1 - r83_.1))))
                                            (.c (List (Int)) (rec_ v.1 r83_.1 v.2.2.1 r83_.2.2) fun r84_ =>
                                              .l (.inl ((IntKind.wrap .i64 (r83_.1 + (1 : Int))), (v.2.1, (v.2.2.1, ((decide ((IntKind.wrap .i64 (Int.tdiv (IntKind.wrap .i64 (v.2.1 - v.1)) (8 : Int))) ≤ (IntKind.wrap .i64 (r83_.1 - v.1)))), (r83_.2.1, r84_)))))))
                                            (.c (List (Int)) (rec_ (IntKind.wrap .i64 (r83_.1 + (1 : Int))) v.2.1 v.2.2.1 r83_.2.2) fun r85_ =>
                                              .l (.inl (v.1, (r83_.1, (v.2.2.1, ((decide ((IntKind.wrap .i64 (Int.tdiv (IntKind.wrap .i64 (v.2.1 - v.1)) (8 : Int))) ≤ (IntKind.wrap .i64 (v.2.1 - r83_.1)))), (r83_.2.1, r85_)))))))))
                                    (.c ((Int) × ((Bool) × (List (Int)))) (F_slices_partitionOrdered_int v.1 v.2.1 (IntKind.wrap .i64 ((IntKind.wrap .i64 (v.2.1 - (1 : Int))) - (IntKind.wrap .i64 (r78_.1 - v.1)))) r80_.2) fun r86_ =>
                                      .g (!decide ((8 : Int) = 0)) <|
                                      .t (decide ((IntKind.wrap .i64 (r86_.1 - v.1)) < (IntKind.wrap .i64 (v.2.1 - r86_.1))))
                                        (.c (List (Int)) (rec_ v.1 r86_.1 v.2.2.1 r86_.2.2) fun r87_ =>
                                          .l (.inl ((IntKind.wrap .i64 (r86_.1 + (1 : Int))), (v.2.1, (v.2.2.1, ((decide ((IntKind.wrap .i64 (Int.tdiv (IntKind.wrap .i64 (v.2.1 - v.1)) (8 : Int))) ≤ (IntKind.wrap .i64 (r86_.1 - v.1)))), (r86_.2.1, r87_)))))))
                                        (.c (List (Int)) (rec_ (IntKind.wrap .i64 (r86_.1 + (1 : Int))) v.2.1 v.2.2.1 r86_.2.2) fun r88_ =>
                                          .l (.inl (v.1, (r86_.1, (v.2.2.1, ((decide ((IntKind.wrap .i64 (Int.tdiv (IntKind.wrap .i64 (v.2.1 - v.1)) (8 : Int))) ≤ (IntKind.wrap .i64 (v.2.1 - r86_.1)))), (r86_.2.1, r88_))))))))))
                            (.t (decide ((0 : Int) < v.1))
                                (.g (inR (IntKind.wrap .i64 (v.1 - (1 : Int))) (List.length r79_)) <|
                                  .g (decide ((Int.toNat (IntKind.wrap .i64 (v.1 - (1 : Int)))) < List.length r79_)) <|
                                  .g (inR (IntKind.wrap .i64 ((IntKind.wrap .i64 (v.2.1 - (1 : Int))) - (IntKind.wrap .i64 (r78_.1 - v.1)))) (List.length r79_)) <|
                                  .g (decide ((Int.toNat (IntKind.wrap .i64 ((IntKind.wrap .i64 (v.2.1 - (1 : Int))) - (IntKind.wrap .i64 (r78_.1 - v.1))))) < List.length r79_)) <|
                                  .c (Bool) (F_cmp_Less_int (List.getD r79_ (Int.toNat (IntKind.wrap .i64 (v.1 - (1 : Int)))) (0 : Int)) (List.getD r79_ (Int.toNat (IntKind.wrap .i64 ((IntKind.wrap .i64 (v.2.1 - (1 : Int))) - (IntKind.wrap .i64 (r78_.1 - v.1))))) (0 : Int))) fun r89_ =>
                                  .t (!r89_)
                                    (.c ((Int) × (List (Int))) (F_slices_partitionEqualOrdered_int v.1 v.2.1 (IntKind.wrap .i64 ((IntKind.wrap .i64 (v.2.1 - (1 : Int))) - (IntKind.wrap .i64 (r78_.1 - v.1)))) r79_) fun r90_ =>
                                      .l (.inl (r90_.1, (v.2.1, (v.2.2.1, (v.2.2.2.1, (v.2.2.2.2.1, r90_.2)))))))
                                    (.c ((Int) × ((Bool) × (List (Int)))) (F_slices_partitionOrdered_int v.1 v.2.1 (IntKind.wrap .i64 ((IntKind.wrap .i64 (v.2.1 - (1 : Int))) - (IntKind.wrap .i64 (r78_.1 - v.1)))) r79_) fun r91_ =>
                                      .g (!decide ((8 : Int) = 0)) <|
                                      .t (decide ((IntKind.wrap .i64 (r91_.1 - v.1)) < (IntKind.wrap .i64 (v.2.1 - r91_.1))))
                                        (.c (List (Int)) (rec_ v.1 r91_.1 v.2.2.1 r91_.2.2) fun r92_ =>
                                          .l (.inl ((IntKind.wrap .i64 (r91_.1 + (1 : Int))), (v.2.1, (v.2.2.1, ((decide ((IntKind.wrap .i64 (Int.tdiv (IntKind.wrap .i64 (v.2.1 - v.1)) (8 : Int))) ≤ (IntKind.wrap .i64 (r91_.1 - v.1)))), (r91_.2.1, r92_)))))))
                                        (.c (List (Int)) (rec_ (IntKind.wrap .i64 (r91_.1 + (1 : Int))) v.2.1 v.2.2.1 r91_.2.2) fun r93_ =>
                                          .l (.inl (v.1, (r91_.1, (v.2.2.1, ((decide ((IntKind.wrap .i64 (Int.tdiv (IntKind.wrap .i64 (v.2.1 - v.1)) (8 : Int))) ≤ (IntKind.wrap .i64 (v.2.1 - r91_.1)))), (r91_.2.1, r93_)))))))))
                                (.c ((Int) × ((Bool) × (List (Int)))) (F_slices_partitionOrdered_int v.1 v.2.1 (IntKind.wrap .i64 ((IntKind.wrap .i64 (v.2.1 - (1 : Int))) - (IntKind.wrap .i64 (r78_.1 - v.1)))) r79_) fun r94_ =>
                                  .g (!decide ((8 : Int) = 0)) <|
                                  .t (decide ((IntKind.wrap .i64 (r94_.1 - v.1)) < (IntKind.wrap .i64 (v.2.1 - r94_.1))))
                                    (.c (List (Int)) (rec_ v.1 r94_.1 v.2.2.1 r94_.2.2) fun r95_ =>
                                      .l (.inl ((IntKind.wrap .i64 (r94_.1 + (1 : Int))), (v.2.1, (v.2.2.1, ((decide ((IntKind.wrap .i64 (Int.tdiv (IntKind.wrap .i64 (v.2.1 - v.1)) (8 : Int))) ≤ (IntKind.wrap .i64 (r94_.1 - v.1)))), (r94_.2.1, r95_)))))))
                                    (.c (List (Int)) (rec_ (IntKind.wrap .i64 (r94_.1 + (1 : Int))) v.2.1 v.2.2.1 r94_.2.2) fun r96_ =>
                                      .l (.inl (v.1, (r94_.1, (v.2.2.1, ((decide ((IntKind.wrap .i64 (Int.tdiv (IntKind.wrap .i64 (v.2.1 - v.1)) (8 : Int))) ≤ (IntKind.wrap .i64 (v.2.1 - r94_.1)))), (r94_.2.1, r96_))))))))))
                        (.t (decide ((0 : Int) < v.1))
                            (.g (inR (IntKind.wrap .i64 (v.1 - (1 : Int))) (List.length r79_)) <|
                              .g (decide ((Int.toNat (IntKind.wrap .i64 (v.1 - (1 : Int)))) < List.length r79_)) <|
                              .g (inR (IntKind.wrap .i64 ((IntKind.wrap .i64 (v.2.1 - (1 : Int))) - (IntKind.wrap .i64 (r78_.1 - v.1)))) (List.length r79_)) <|
                              .g (decide ((Int.toNat (IntKind.wrap .i64 ((IntKind.wrap .i64 (v.2.1 - (1 : Int))) - (IntKind.wrap .i64 (r78_.1 - v.1))))) < List.length r79_)) <|
                              .c (Bool) (F_cmp_Less_int (List.getD r79_ (Int.toNat (IntKind.wrap .i64 (v.1 - (1 : Int)))) (0 : Int)) (List.getD r79_ (Int.toNat (IntKind.wrap .i64 ((IntKind.wrap .i64 (v.2.1 - (1 : Int))) - (IntKind.wrap .i64 (r78_.1 - v.1))))) (0 : Int))) fun r97_ =>
                              .t (!r97_)
                                (.c ((Int) × (List (Int))) (F_slices_partitionEqualOrdered_int v.1 v.2.1 (IntKind.wrap .i64 ((IntKind.wrap .i64 (v.2.1 - (1 : Int))) - (IntKind.wrap .i64 (r78_.1 - v.1)))) r79_) fun r98_ =>
                                  .l (.inl (r98_.1, (v.2.1, (v.2.2.1, (v.2.2.2.1, (v.2.2.2.2.1, r98_.2)))))))
                                (.c ((Int) × ((Bool) × (List (Int)))) (F_slices_partitionOrdered_int v.1 v.2.1 (IntKind.wrap .i64 ((IntKind.wrap .i64 (v.2.1 - (1 : Int))) - (IntKind.wrap .i64 (r78_.1 - v.1)))) r79_) fun r99_ =>
                                  .g (!decide ((8 : Int) = 0)) <|
                                  .t (decide ((IntKind.wrap .i64 (r99_.1 - v.1)) < (IntKind.wrap .i64 (v.2.1 - r99_.1))))
                                    (.c (List (Int)) (rec_ v.1 r99_.1 v.2.2.1 r99_.2.2) fun r100_ =>
                                      .l (.inl ((IntKind.wrap .i64 (r99_.1 + (1 : Int))), (v.2.1, (v.2.2.1, ((decide ((IntKind.wrap .i64 (Int.tdiv (IntKind.wrap .i64 (v.2.1 - v.1)) (8 : Int))) ≤ (IntKind.wrap .i64 (r99_.1 - v.1)))), (r99_.2.1, r100_)))))))
                                    (.c (List (Int)) (rec_ (IntKind.wrap .i64 (r99_.1 + (1 : Int))) v.2.1 v.2.2.1 r99_.2.2) fun r101_ =>
                                      .l (.inl (v.1, (r99_.1, (v.2.2.1, ((decide ((IntKind.wrap .i64 (Int.tdiv (IntKind.wrap .i64 (v.2.1 - v.1)) (8 : Int))) ≤ (IntKind.wrap .i64 (v.2.1 - r99_.1)))), (r99_.2.1, r101_)))))))))
                            (.c ((Int) × ((Bool) × (List (Int)))) (F_slices_partitionOrdered_int v.1 v.2.1 (IntKind.wrap .i64 ((IntKind.wrap .i64 (v.2.1 - (1 : Int))) - (IntKind.wrap .i64 (r78_.1 - v.1)))) r79_) fun r102_ =>
                              .g (!decide ((8 : Int) = 0)) <|
                              .t (decide ((IntKind.wrap .i64 (r102_.1 - v.1)) < (IntKind.wrap .i64 (v.2.1 - r102_.1))))
                                (.c (List (Int)) (rec_ v.1 r102_.1 v.2.2.1 r102_.2.2) fun r103_ =>
                                  .l (.inl ((IntKind.wrap .i64 (r102_.1 + (1 : Int))), (v.2.1, (v.2.2.1, ((decide ((IntKind.wrap .i64 (Int.tdiv (IntKind.wrap .i64 (v.2.1 - v.1)) (8 : Int))) ≤ (IntKind.wrap .i64 (r102_.1 - v.1)))), (r102_.2.1, r103_)))))))
                                (.c (List (Int)) (rec_ (IntKind.wrap .i64 (r102_.1 + (1 : Int))) v.2.1 v.2.2.1 r102_.2.2) fun r104_ =>
                                  .l (.inl (v.1, (r102_.1, (v.2.2.1, ((decide ((IntKind.wrap .i64 (Int.tdiv (IntKind.wrap .i64 (v.2.1 - v.1)) (8 : Int))) ≤ (IntKind.wrap .i64 (v.2.1 - r102_.1)))), (r102_.2.1, r104_))))))))))
                    (.t (decide ((0 : Int) < v.1))
                        (.g (inR (IntKind.wrap .i64 (v.1 - (1 : Int))) (List.length r79_)) <|
                          .g (decide ((Int.toNat (IntKind.wrap .i64 (v.1 - (1 : Int)))) < List.length r79_)) <|
                          .g (inR (IntKind.wrap .i64 ((IntKind.wrap .i64 (v.2.1 - (1 : Int))) - (IntKind.wrap .i64 (r78_.1 - v.1)))) (List.length r79_)) <|
                          .g (decide ((Int.toNat (IntKind.wrap .i64 ((IntKind.wrap .i64 (v.2.1 - (1 : Int))) - (IntKind.wrap .i64 (r78_.1 - v.1))))) < List.length r79_)) <|
                          .c (Bool) (F_cmp_Less_int (List.getD r79_ (Int.toNat (IntKind.wrap .i64 (v.1 - (1 : Int)))) (0 : Int)) (List.getD r79_ (Int.toNat (IntKind.wrap .i64 ((IntKind.wrap .i64 (v.2.1 - (1 : Int))) - (IntKind.wrap .i64 (r78_.1 - v.1))))) (0 : Int))) fun r105_ =>
                          .t (!r105_)
                            (.c ((Int) × (List (Int))) (F_slices_partitionEqualOrdered_int v.1 v.2.1 (IntKind.wrap .i64 ((IntKind.wrap .i64 (v.2.1 - (1 : Int))) - (IntKind.wrap .i64 (r78_.1 - v.1)))) r79_) fun r106_ =>
                              .l (.inl (r106_.1, (v.2.1, (v.2.2.1, (v.2.2.2.1, (v.2.2.2.2.1, r106_.2)))))))
                            (.c ((Int) × ((Bool) × (List (Int)))) (F_slices_partitionOrdered_int v.1 v.2.1 (IntKind.wrap .i64 ((IntKind.wrap .i64 (v.2.1 - (1 : Int))) - (IntKind.wrap .i64 (r78_.1 - v.1)))) r79_) fun r107_ =>
                              .g (!decide ((8 : Int) = 0)) <|
                              .t (decide ((IntKind.wrap .i64 (r107_.1 - v.1)) < (IntKind.wrap .i64 (v.2.1 - r107_.1))))
                                (.c (List (Int)) (rec_ v.1 r107_.1 v.2.2.1 r107_.2.2) fun r108_ =>
                                  .l (.inl ((IntKind.wrap .i64 (r107_.1 + (1 : Int))), (v.2.1, (v.2.2.1, ((decide ((IntKind.wrap .i64 (Int.tdiv (IntKind.wrap .i64 (v.2.1 - v.1)) (8 : Int))) ≤ (IntKind.wrap .i64 (r107_.1 - v.1)))), (r107_.2.1, r108_)))))))
                                (.c (List (Int)) (rec_ (IntKind.wrap .i64 (r107_.1 + (1 : Int))) v.2.1 v.2.2.1 r107_.2.2) fun r109_ =>
                                  .l (.inl (v.1, (r107_.1, (v.2.2.1, ((decide ((IntKind.wrap .i64 (Int.tdiv (IntKind.wrap .i64 (v.2.1 - v.1)) (8 : Int))) ≤ (IntKind.wrap .i64 (v.2.1 - r107_.1)))), (r107_.2.1, r109_)))))))))
                        (.c ((Int) × ((Bool) × (List (Int)))) (F_slices_partitionOrdered_int v.1 v.2.1 (IntKind.wrap .i64 ((IntKind.wrap .i64 (v.2.1 - (1 : Int))) - (IntKind.wrap .i64 (r78_.1 - v.1)))) r79_) fun r110_ =>
                          .g (!decide ((8 : Int) = 0)) <|
                          .t (decide ((IntKind.wrap .i64 (r110_.1 - v.1)) < (IntKind.wrap .i64 (v.2.1 - r110_.1))))
                            (.c (List (Int)) (rec_ v.1 r110_.1 v.2.2.1 r110_.2.2) fun r111_ =>
                              .l (.inl ((IntKind.wrap .i64 (r110_.1 + (1 : Int))), (v.2.1, (v.2.2.1, ((decide ((IntKind.wrap .i64 (Int.tdiv (IntKind.wrap .i64 (v.2.1 - v.1)) (8 : Int))) ≤ (IntKind.wrap .i64 (r110_.1 - v.1)))), (r110_.2.1, r111_)))))))
                            (.c (List (Int)) (rec_ (IntKind.wrap .i64 (r110_.1 + (1 : Int))) v.2.1 v.2.2.1 r110_.2.2) fun r112_ =>
                              .l (.inl (v.1, (r110_.1, (v.2.2.1, ((decide ((IntKind.wrap .i64 (Int.tdiv (IntKind.wrap .i64 (v.2.1 - v.1)) (8 : Int))) ≤ (IntKind.wrap .i64 (v.2.1 - r110_.1)))), (r110_.2.1, r112_))))))))))
                (.t v.2.2.2.1
                    (.t v.2.2.2.2.1
                        (.t (r78_.2 == (1 : Int))
                            (.c ((Bool) × (List (Int))) (F_slices_partialInsertionSortOrdered_int v.1 v.2.1 v.2.2.2.2.2) fun r113_ =>
                              .t r113_.1
                                (.l (.inr r113_.2))
                                (.t (decide ((0 : Int) < v.1))
                                    (.g (inR (IntKind.wrap .i64 (v.1 - (1 : Int))) (List.length r113_.2)) <|
                                      .g (decide ((Int.toNat (IntKind.wrap .i64 (v.1 - (1 : Int)))) < List.length r113_.2)) <|
                                      .g (inR r78_.1 (List.length r113_.2)) <|
                                      .g (decide ((Int.toNat r78_.1) < List.length r113_.2)) <|
                                      .c (Bool) (F_cmp_Less_int (List.getD r113_.2 (Int.toNat (IntKind.wrap .i64 (v.1 - (1 : Int)))) (0 : Int)) (List.getD r113_.2 (Int.toNat r78_.1) (0 : Int))) fun r114_ =>
                                      .t (!r114_)
                                        (.c ((Int) × (List (Int))) (F_slices_partitionEqualOrdered_int v.1 v.2.1 r78_.1 r113_.2) fun r115_ =>
                                          .l (.inl (r115_.1, (v.2.1, (v.2.2.1, (v.2.2.2.1, (v.2.2.2.2.1, r115_.2)))))))
                                        (.c ((Int) × ((Bool) × (List (Int)))) (F_slices_partitionOrdered_int v.1 v.2.1 r78_.1 r113_.2) fun r116_ =>
                                          .g (!decide ((8 : Int) = 0)) <|
                                          .t (decide ((IntKind.wrap .i64 (r116_.1 - v.1)) < (IntKind.wrap .i64 (v.2.1 - r116_.1))))
                                            (.c (List (Int)) (rec_ v.1 r116_.1 v.2.2.1 r116_.2.2) fun r117_ =>
                                              .l (.inl ((IntKind.wrap .i64 (r116_.1 + (1 : Int))), (v.2.1, (v.2.2.1, ((decide ((IntKind.wrap .i64 (Int.tdiv (IntKind.wrap .i64 (v.2.1 - v.1)) (8 : Int))) ≤ (IntKind.wrap .i64 (r116_.1 - v.1)))), (r116_.2.1, r117_)))))))
                                            (.c (List (Int)) (rec_ (IntKind.wrap .i64 (r116_.1 + (1 : Int))) v.2.1 v.2.2.1 r116_.2.2) fun r118_ =>
                                              .l (.inl (v.1, (r116_.1, (v.2.2.1, ((decide ((IntKind.wrap .i64 (Int.tdiv (IntKind.wrap .i64 (v.2.1 - v.1)) (8 : Int))) ≤ (IntKind.wrap .i64 (v.2.1 - r116_.1)))), (r116_.2.1, r118_)))))))))
                                    (.c ((Int) × ((Bool) × (List (Int)))) (F_slices_partitionOrdered_int v.1 v.2.1 r78_.1 r113_.2) fun r119_ =>
                                      .g (!decide ((8 : Int) = 0)) <|
                                      .t (decide ((IntKind.wrap .i64 (r119_.1 - v.1)) < (IntKind.wrap .i64 (v.2.1 - r119_.1))))
                                        (.c (List (Int)) (rec_ v.1 r119_.1 v.2.2.1 r119_.2.2) fun r120_ =>
                                          .l (.inl ((IntKind.wrap .i64 (r119_.1 + (1 : Int))), (v.2.1, (v.2.2.1, ((decide ((IntKind.wrap .i64 (Int.tdiv (IntKind.wrap .i64 (v.2.1 - v.1)) (8 : Int))) ≤ (IntKind.wrap .i64 (r119_.1 - v.1)))), (r119_.2.1, r120_)))))))
                                        (.c (List (Int)) (rec_ (IntKind.wrap .i64 (r119_.1 + (1 : Int))) v.2.1 v.2.2.1 r119_.2.2) fun r121_ =>
                                          .l (.inl (v.1, (r119_.1, (v.2.2.1, ((decide ((IntKind.wrap .i64 (Int.tdiv (IntKind.wrap .i64 (v.2.1 - v.1)) (8 : Int))) ≤ (IntKind.wrap .i64 (v.2.1 - r119_.1)))), (r119_.2.1, r121_))))))))))
                            (.t (decide ((0 : Int) < v.1))
                                (.g (inR (IntKind.wrap .i64 (v.1 - (1 : Int))) (List.length v.2.2.2.2.2)) <|
                                  .g (decide ((Int.toNat (IntKind.wrap .i64 (v.1 - (1 : Int)))) < List.length v.2.2.2.2.2)) <|
                                  .g (inR r78_.1 (List.length v.2.2.2.2.2)) <|
                                  .g (decide ((Int.toNat r78_.1) < List.length v.2.2.2.2.2)) <|
                                  .c (Bool) (F_cmp_Less_int (List.getD v.2.2.2.2.2 (Int.toNat (IntKind.wrap .i64 (v.1 - (1 : Int)))) (0 : Int)) (List.getD v.2.2.2.2.2 (Int.toNat r78_.1) (0 : Int))) fun r122_ =>
                                  .t (!r122_)
                                    (.c ((Int) × (List (Int))) (F_slices_partitionEqualOrdered_int v.1 v.2.1 r78_.1 v.2.2.2.2.2) fun r123_ =>
                                      .l (.inl (r123_.1, (v.2.1, (v.2.2.1, (v.2.2.2.1, (v.2.2.2.2.1, r123_.2)))))))
                                    (.c ((Int) × ((Bool) × (List (Int)))) (F_slices_partitionOrdered_int v.1 v.2.1 r78_.1 v.2.2.2.2.2) fun r124_ =>
                                      .g (!decide ((8 : Int) = 0)) <|
                                      .t (decide ((IntKind.wrap .i64 (r124_.1 - v.1)) < (IntKind.wrap .i64 (v.2.1 - r124_.1))))
                                        (.c (List (Int)) (rec_ v.1 r124_.1 v.2.2.1 r124_.2.2) fun r125_ =>
                                          .l (.inl ((IntKind.wrap .i64 (r124_.1 + (1 : Int))), (v.2.1, (v.2.2.1, ((decide ((IntKind.wrap .i64 (Int.tdiv (IntKind.wrap .i64 (v.2.1 - v.1)) (8 : Int))) ≤ (IntKind.wrap .i64 (r124_.1 - v.1)))), (r124_.2.1, r125_)))))))
                                        (.c (List (Int)) (rec_ (IntKind.wrap .i64 (r124_.1 + (1 : Int))) v.2.1 v.2.2.1 r124_.2.2) fun r126_ =>
                                          .l (.inl (v.1, (r124_.1, (v.2.2.1, ((decide ((IntKind.wrap .i64 (Int.tdiv (IntKind.wrap .i64 (v.2.1 - v.1)) (8 : Int))) ≤ (IntKind.wrap .i64 (v.2.1 - r124_.1)))), (r124_.2.1, r126_)))))))))
                                (.c ((Int) × ((Bool) × (List (Int)))) (F_slices_partitionOrdered_int v.1 v.2.1 r78_.1 v.2.2.2.2.2) fun r127_ =>
                                  .g (!decide ((8 : Int) = 0)) <|
                                  .t (decide ((IntKind.wrap .i64 (r127_.1 - v.1)) < (IntKind.wrap .i64 (v.2.1 - r127_.1))))
                                    (.c (List (Int)) (rec_ v.1 r127_.1 v.2.2.1 r127_.2.2) fun r128_ =>
                                      .l (.inl ((IntKind.wrap .i64 (r127_.1 + (1 : Int))), (v.2.1, (v.2.2.1, ((decide ((IntKind.wrap .i64 (Int.tdiv (IntKind.wrap .i64 (v.2.1 - v.1)) (8 : Int))) ≤ (IntKind.wrap .i64 (r127_.1 - v.1)))), (r127_.2.1, r128_)))))))
                                    (.c (List (Int)) (rec_ (IntKind.wrap .i64 (r127_.1 + (1 : Int))) v.2.1 v.2.2.1 r127_.2.2) fun r129_ =>
                                      .l (.inl (v.1, (r127_.1, (v.2.2.1, ((decide ((IntKind.wrap .i64 (Int.tdiv (IntKind.wrap .i64 (v.2.1 - v.1)) (8 : Int))) ≤ (IntKind.wrap .i64 (v.2.1 - r127_.1)))), (r127_.2.1, r129_))))))))))
                        (.t (decide ((0 : Int) < v.1))
                            (.g (inR (IntKind.wrap .i64 (v.1 - (1 : Int))) (List.length v.2.2.2.2.2)) <|
                              .g (decide ((Int.toNat (IntKind.wrap .i64 (v.1 - (1 : Int)))) < List.length v.2.2.2.2.2)) <|
                              .g (inR r78_.1 (List.length v.2.2.2.2.2)) <|
                              .g (decide ((Int.toNat r78_.1) < List.length v.2.2.2.2.2)) <|
                              .c (Bool) (F_cmp_Less_int (List.getD v.2.2.2.2.2 (Int.toNat (IntKind.wrap .i64 (v.1 - (1 : Int)))) (0 : Int)) (List.getD v.2.2.2.2.2 (Int.toNat r78_.1) (0 : Int))) fun r130_ =>
                              .t (!r130_)
                                (.c ((Int) × (List (Int))) (F_slices_partitionEqualOrdered_int v.1 v.2.1 r78_.1 v.2.2.2.2.2) fun r131_ =>
                                  .l (.inl (r131_.1, (v.2.1, (v.2.2.1, (v.2.2.2.1, (v.2.2.2.2.1, r131_.2)))))))
                                (.c ((Int) × ((Bool) × (List (Int)))) (F_slices_partitionOrdered_int v.1 v.2.1 r78_.1 v.2.2.2.2.2) fun r132_ =>
                                  .g (!decide ((8 : Int) = 0)) <|
                                  .t (decide ((IntKind.wrap .i64 (r132_.1 - v.1)) < (IntKind.wrap .i64 (v.2.1 - r132_.1))))
                                    (.c (List (Int)) (rec_ v.1 r132_.1 v.2.2.1 r132_.2.2) fun r133_ =>
                                      .l (.inl ((IntKind.wrap .i64 (r132_.1 + (1 : Int))), (v.2.1, (v.2.2.1, ((decide ((IntKind.wrap .i64 (Int.tdiv (IntKind.wrap .i64 (v.2.1 - v.1)) (8 : Int))) ≤ (IntKind.wrap .i64 (r132_.1 - v.1)))), (r132_.2.1, r133_)))))))
                                    (.c (List (Int)) (rec_ (IntKind.wrap .i64 (r132_.1 + (1 : Int))) v.2.1 v.2.2.1 r132_.2.2) fun r134_ =>
                                      .l (.inl (v.1, (r132_.1, (v.2.2.1, ((decide ((IntKind.wrap .i64 (Int.tdiv (IntKind.wrap .i64 (v.2.1 - v.1)) (8 : Int))) ≤ (IntKind.wrap .i64 (v.2.1 - r132_.1)))), (r132_.2.1, r134_)))))))))
                            (.c ((Int) × ((Bool) × (List (Int)))) (F_slices_partitionOrdered_int v.1 v.2.1 r78_.1 v.2.2.2.2.2) fun r135_ =>
                              .g (!decide ((8 : Int) = 0)) <|
                              .t (decide ((IntKind.wrap .i64 (r135_.1 - v.1)) < (IntKind.wrap .i64 (v.2.1 - r135_.1))))
                                (.c (List (Int)) (rec_ v.1 r135_.1 v.2.2.1 r135_.2.2) fun r136_ =>
                                  .l (.inl ((IntKind.wrap .i64 (r135_.1 + (1 : Int))), (v.2.1, (v.2.2.1, ((decide ((IntKind.wrap .i64 (Int.tdiv (IntKind.wrap .i64 (v.2.1 - v.1)) (8 : Int))) ≤ (IntKind.wrap .i64 (r135_.1 - v.1)))), (r135_.2.1, r136_)))))))
                                (.c (List (Int)) (rec_ (IntKind.wrap .i64 (r135_.1 + (1 : Int))) v.2.1 v.2.2.1 r135_.2.2) fun r137_ =>
                                  .l (.inl (v.1, (r135_.1, (v.2.2.1, ((decide ((IntKind.wrap .i64 (Int.tdiv (IntKind.wrap .i64 (v.2.1 - v.1)) (8 : Int))) ≤ (IntKind.wrap .i64 (v.2.1 - r135_.1)))), (r135_.2.1, r137_))))))))))
                    (.t (decide ((0 : Int) < v.1))
                        (.g (inR (IntKind.wrap .i64 (v.1 - (1 : Int))) (List.length v.2.2.2.2.2)) <|
                          .g (decide ((Int.toNat (IntKind.wrap .i64 (v.1 - (1 : Int)))) < List.length v.2.2.2.2.2)) <|
                          .g (inR r78_.1 (List.length v.2.2.2.2.2)) <|
                          .g (decide ((Int.toNat r78_.1) < List.length v.2.2.2.2.2)) <|
                          .c (Bool) (F_cmp_Less_int (List.getD v.2.2.2.2.2 (Int.toNat (IntKind.wrap .i64 (v.1 - (1 : Int)))) (0 : Int)) (List.getD v.2.2.2.2.2 (Int.toNat r78_.1) (0 : Int))) fun r138_ =>
                          .t (!r138_)
                            (.c ((Int) × (List (Int))) (F_slices_partitionEqualOrdered_int v.1 v.2.1 r78_.1 v.2.2.2.2.2) fun r139_ =>
                              .l (.inl (r139_.1, (v.2.1, (v.2.2.1, (v.2.2.2.1, (v.2.2.2.2.1, r139_.2)))))))
                            (.c ((Int) × ((Bool) × (List (Int)))) (F_slices_partitionOrdered_int v.1 v.2.1 r78_.1 v.2.2.2.2.2) fun r140_ =>
                              .g (!decide ((8 : Int) = 0)) <|
                              .t (decide ((IntKind.wrap .i64 (r140_.1 - v.1)) < (IntKind.wrap .i64 (v.2.1 - r140_.1))))
                                (.c (List (Int)) (rec_ v.1 r140_.1 v.2.2.1 r140_.2.2) fun r141_ =>
                                  .l (.inl ((IntKind.wrap .i64 (r140_.1 + (1 : Int))), (v.2.1, (v.2.2.1, ((decide ((IntKind.wrap .i64 (Int.tdiv (IntKind.wrap .i64 (v.2.1 - v.1)) (8 : Int))) ≤ (IntKind.wrap .i64 (r140_.1 - v.1)))), (r140_.2.1, r141_)))))))
                                (.c (List (Int)) (rec_ (IntKind.wrap .i64 (r140_.1 + (1 : Int))) v.2.1 v.2.2.1 r140_.2.2) fun r142_ =>
                                  .l (.inl (v.1, (r140_.1, (v.2.2.1, ((decide ((IntKind.wrap .i64 (Int.tdiv (IntKind.wrap .i64 (v.2.1 - v.1)) (8 : Int))) ≤ (IntKind.wrap .i64 (v.2.1 - r140_.1)))), (r140_.2.1, r142_)))))))))
                        (.c ((Int) × ((Bool) × (List (Int)))) (F_slices_partitionOrdered_int v.1 v.2.1 r78_.1 v.2.2.2.2.2) fun r143_ =>
                          .g (!decide ((8 : Int) = 0)) <|
                          .t (decide ((IntKind.wrap .i64 (r143_.1 - v.1)) < (IntKind.wrap .i64 (v.2.1 - r143_.1))))
                            (.c (List (Int)) (rec_ v.1 r143_.1 v.2.2.1 r143_.2.2) fun r144_ =>
                              .l (.inl ((IntKind.wrap .i64 (r143_.1 + (1 : Int))), (v.2.1, (v.2.2.1, ((decide ((IntKind.wrap .i64 (Int.tdiv (IntKind.wrap .i64 (v.2.1 - v.1)) (8 : Int))) ≤ (IntKind.wrap .i64 (r143_.1 - v.1)))), (r143_.2.1, r144_)))))))
                            (.c (List (Int)) (rec_ (IntKind.wrap .i64 (r143_.1 + (1 : Int))) v.2.1 v.2.2.1 r143_.2.2) fun r145_ =>
                              .l (.inl (v.1, (r143_.1, (v.2.2.1, ((decide ((IntKind.wrap .i64 (Int.tdiv (IntKind.wrap .i64 (v.2.1 - v.1)) (8 : Int))) ≤ (IntKind.wrap .i64 (v.2.1 - r143_.1)))), (r143_.2.1, r145_)))))))))))))

noncomputable def L_slices_pdqsortOrdered_int_0 (rec_ : (Int) → (Int) → (Int) → (List (Int)) → Option (List (Int))) (k : Unit) (v : (Int) × ((Int) × ((Int) × ((Bool) × ((Bool) × (List (Int))))))) : Option (List (Int)) := iter (fun v => (S_slices_pdqsortOrdered_int_0 rec_ k v).ev) v

noncomputable def DL_slices_pdqsortOrdered_int_0 (rec_ : (Int) → (Int) → (Int) → (List (Int)) → Option (List (Int))) : LD where
  head := { acts := [], S := { slots := [0, 1, 2, 3, 8, 9], sh := (.cons (.arr 64) (.cons (.dat (.int .i64)) (.cons (.dat (.int .i64)) (.cons (.dat (.int .i64)) (.cons (.dat .bool) (.cons (.dat .bool) .nil)))))), obs := [(64, .arr 3 (.int .i64))] } }
  exits := []
  rets := { acts := [], S := { slots := [0], sh := (.cons (.arr 64) .nil), obs := [(64, .arr 3 (.int .i64))] } }
  K := Unit
  V := (Int) × ((Int) × ((Int) × ((Bool) × ((Bool) × (List (Int))))))
  R := List (Int)
  join := fun _ v => (((), (v.1, (v.2.1, (v.2.2.1, (v.2.2.2.1, (v.2.2.2.2.1, ())))))), (v.2.2.2.2.2, ()))
  sk := fun _ => ()
  sv := fun t => (t.1.2.1, (t.1.2.2.1, (t.1.2.2.2.1, (t.1.2.2.2.2.1, (t.1.2.2.2.2.2.1, t.2.1)))))
  step := S_slices_pdqsortOrdered_int_0 rec_
  leaf := fun _ r => .l (.ret (mkSt ({ slots := [0], sh := (.cons (.arr 64) .nil), obs := [(64, .arr 3 (.int .i64))] }) (((), ()), (r, ()))))

noncomputable def T_slices_pdqsortOrdered_int (rec_ : (Int) → (Int) → (Int) → (List (Int)) → Option (List (Int))) (a2_ : Int) (a3_ : Int) (a4_ : Int) (a1_ : List (Int)) : Tr (List (Int)) :=
  .c (List (Int)) (L_slices_pdqsortOrdered_int_0 rec_ () (a2_, (a3_, (a4_, (true, (true, a1_)))))) fun r147_ =>
  .l r147_

noncomputable def F_slices_pdqsortOrdered_int : Nat → (Int) → (Int) → (Int) → (List (Int)) → Option (List (Int))
  | 0 => fun _ _ _ _ => none
  | n + 1 => fun a2_ a3_ a4_ a1_ => (T_slices_pdqsortOrdered_int (F_slices_pdqsortOrdered_int n) a2_ a3_ a4_ a1_).ev

noncomputable def A_slices_pdqsortOrdered_int : Sh := (.cons (.arr 64) (.cons (.dat (.int .i64)) (.cons (.dat (.int .i64)) (.cons (.dat (.int .i64)) .nil))))

noncomputable def I_slices_pdqsortOrdered_int : List (Nat × OSh) := [(64, .arr 3 (.int .i64))]

noncomputable def K_slices_pdqsortOrdered_int : RetK := { acts := [], res := [], sh := .nil, obs := [(64, .arr 3 (.int .i64))], pins := [(0, 64)] }

noncomputable def Dr_slices_pdqsortOrdered_int (rec_ : (Int) → (Int) → (Int) → (List (Int)) → Option (List (Int))) : FD where
  A := A_slices_pdqsortOrdered_int
  ins := I_slices_pdqsortOrdered_int
  lend := [.arg 0]
  R := List (Int)
  F := fun x => rec_ x.1.2.1 x.1.2.2.1 x.1.2.2.2.1 x.2.1
  emb := fun r => ([], [(64, .arr 3 (.int .i64) r)])

noncomputable def D_slices_pdqsortOrdered_int (n : Nat) : FD := Dr_slices_pdqsortOrdered_int (F_slices_pdqsortOrdered_int n)

noncomputable def E_slices_pdqsortOrdered_int (rec_ : (Int) → (Int) → (Int) → (List (Int)) → Option (List (Int))) : Env := envOf [(195, D_slices_insertionSortOrdered_int), (196, D_slices_heapSortOrdered_int), (197, D_slices_breakPatternsOrdered_int), (198, D_slices_choosePivotOrdered_int), (199, D_slices_reverseRangeOrdered_int), (200, D_slices_partialInsertionSortOrdered_int), (201, D_cmp_Less_int), (202, D_slices_partitionEqualOrdered_int), (203, D_slices_partitionOrdered_int), (187, Dr_slices_pdqsortOrdered_int rec_)]

noncomputable def Z_slices_pdqsortOrdered_int : Nat → Nat → List Nat := fun _ _ => []

noncomputable def O_slices_pdqsortOrdered_int (rec_ : (Int) → (Int) → (Int) → (List (Int)) → Option (List (Int))) : List (Nat × LD) := [(0, DL_slices_pdqsortOrdered_int_0 rec_)]

noncomputable def C_slices_pdqsortOrdered_int : Code := (f187.body).getD .skip

/-! ### 166 slices.Sort[[]int,int] -/

noncomputable def T_slices_Sort_Sint_int (a1_ : List (Int)) : Tr (List (Int)) :=
  .c (Int) (F_math_bits_Len (IntKind.wrap .u64 ((List.length a1_ : Nat) : Int))) fun r1_ =>
  .c (List (Int)) (F_slices_pdqsortOrdered_int 1000000 (0 : Int) ((List.length a1_ : Nat) : Int) r1_ a1_) fun r2_ =>
  .l r2_

noncomputable def F_slices_Sort_Sint_int (a1_ : List (Int)) : Option (List (Int)) := (T_slices_Sort_Sint_int a1_).ev

noncomputable def A_slices_Sort_Sint_int : Sh := (.cons (.arr 64) .nil)

noncomputable def I_slices_Sort_Sint_int : List (Nat × OSh) := [(64, .arr 3 (.int .i64))]

noncomputable def K_slices_Sort_Sint_int : RetK := { acts := [], res := [], sh := .nil, obs := [(64, .arr 3 (.int .i64))], pins := [(0, 64)] }

noncomputable def D_slices_Sort_Sint_int : FD where
  A := A_slices_Sort_Sint_int
  ins := I_slices_Sort_Sint_int
  lend := [.arg 0]
  R := List (Int)
  F := fun x => F_slices_Sort_Sint_int x.2.1
  emb := fun r => ([], [(64, .arr 3 (.int .i64) r)])

noncomputable def E_slices_Sort_Sint_int : Env := envOf [(188, D_math_bits_Len), (187, D_slices_pdqsortOrdered_int 1000000)]

noncomputable def Z_slices_Sort_Sint_int : Nat → Nat → List Nat := fun _ _ => []

noncomputable def O_slices_Sort_Sint_int : List (Nat × LD) := []

noncomputable def C_slices_Sort_Sint_int : Code := (f166.body).getD .skip

/-! ### 121 (loop.example/g01110/impl.Field).ordered -/

noncomputable def S_im_Field_ordered_0 (k : (List (Int)) × ((Int) × (List (Int)))) (v : (Int) × (Int)) : Tr (((Int) × (Int)) ⊕ (Int)) :=
  .t (decide (v.2 < k.2.1))
    (.g (inR v.2 (List.length k.2.2)) <|
      .g (decide ((Int.toNat v.2) < List.length k.2.2)) <|
      .g (inR v.2 (List.length k.1)) <|
      .l (.inl ((IntKind.wrap .i64 (v.1 + (IntKind.wrap .i64 ((List.getD k.2.2 (Int.toNat v.2) (0 : Int)) * (List.getD k.1 (Int.toNat v.2) (0 : Int)))))), (IntKind.wrap .i64 (v.2 + (1 : Int))))))
    (.l (.inr v.1))

noncomputable def L_im_Field_ordered_0 (k : (List (Int)) × ((Int) × (List (Int)))) (v : (Int) × (Int)) : Option (Int) := iter (fun v => (S_im_Field_ordered_0 k v).ev) v

noncomputable def DL_im_Field_ordered_0 : LD where
  head := { acts := [], S := { slots := [2, 8, 16, 17, 18], sh := (.cons (.dat (.slice (.int .i64))) (.cons (.dat (.int .i64)) (.cons (.arr 832) (.cons (.dat (.int .i64)) (.cons (.dat (.int .i64)) .nil))))), obs := [(832, .arr 3 (.int .i64))] } }
  exits := [(0, { acts := [], S := { slots := [8], sh := (.cons (.dat (.int .i64)) .nil), obs := [] } })]
  rets := { acts := [], S := { slots := [], sh := .nil, obs := [] } }
  K := (List (Int)) × ((Int) × (List (Int)))
  V := (Int) × (Int)
  R := Int
  join := fun k v => ((k.1, (v.1, ((), (k.2.1, (v.2, ()))))), (k.2.2, ()))
  sk := fun t => (t.1.1, (t.1.2.2.2.1, t.2.1))
  sv := fun t => (t.1.2.1, t.1.2.2.2.2.1)
  step := S_im_Field_ordered_0
  leaf := fun _ r => .l (.exit 0 (mkSt ({ slots := [8], sh := (.cons (.dat (.int .i64)) .nil), obs := [] }) ((r, ()), ())))

noncomputable def T_im_Field_ordered (a1_ : List (Int)) (a2_ : List (List (Int))) (a3_ : List (Int)) (a4_ : List (Int)) : Tr (Int) :=
  .c (List (Int)) (F_im_Field_lengths a1_ a2_ a3_) fun r1_ =>
  .c (List (Int)) (F_slices_Sort_Sint_int r1_) fun r2_ =>
  .c (Int) (L_im_Field_ordered_0 (a4_, (((List.length r2_ : Nat) : Int), r2_)) ((0 : Int), (0 : Int))) fun r9_ =>
  .l r9_

noncomputable def F_im_Field_ordered (a1_ : List (Int)) (a2_ : List (List (Int))) (a3_ : List (Int)) (a4_ : List (Int)) : Option (Int) := (T_im_Field_ordered a1_ a2_ a3_ a4_).ev

noncomputable def A_im_Field_ordered : Sh := (.cons (.agg (.cons (.dat (.slice (.int .i64))) (.cons (.dat (.slice (.slice (.int .i64)))) .nil))) (.cons (.dat (.slice (.int .i64))) (.cons (.dat (.slice (.int .i64))) .nil)))

noncomputable def I_im_Field_ordered : List (Nat × OSh) := []

noncomputable def K_im_Field_ordered : RetK := { acts := [], res := [.tmp 6], sh := (.cons (.dat (.int .i64)) .nil), obs := [], pins := [] }

noncomputable def D_im_Field_ordered : FD where
  A := A_im_Field_ordered
  ins := I_im_Field_ordered
  lend := []
  R := Int
  F := fun x => F_im_Field_ordered x.1.1.1 x.1.1.2.1 x.1.2.1 x.1.2.2.1
  emb := fun r => ([.dat (.int .i64) r], [])

noncomputable def E_im_Field_ordered : Env := envOf [(165, D_im_Field_lengths), (166, D_slices_Sort_Sint_int)]

noncomputable def Z_im_Field_ordered : Nat → Nat → List Nat := fun _ _ => []

noncomputable def O_im_Field_ordered : List (Nat × LD) := [(0, DL_im_Field_ordered_0)]

noncomputable def C_im_Field_ordered : Code := (f121.body).getD .skip

/-! ### 62 loop.example/g01110/impl.OrderedValue -/

noncomputable def T_im_OrderedValue (a1_ : List (Int)) (a2_ : List (List (Int))) (a3_ : List (Int)) (a4_ : List (Int)) : Tr ((Int) × (Bool)) :=
  .c (Bool) (F_im_isOpened a1_ a2_ a3_) fun r1_ =>
  .t (!r1_)
    (.l ((0 : Int), false))
    (.c (Bool) (F_im_Field_areWeights a1_ a2_ a4_) fun r2_ =>
      .t (!r2_)
        (.l ((0 : Int), false))
        (.c (Int) (F_im_Field_ordered a1_ a2_ a3_ a4_) fun r3_ =>
          .l (r3_, true)))

noncomputable def F_im_OrderedValue (a1_ : List (Int)) (a2_ : List (List (Int))) (a3_ : List (Int)) (a4_ : List (Int)) : Option ((Int) × (Bool)) := (T_im_OrderedValue a1_ a2_ a3_ a4_).ev

noncomputable def A_im_OrderedValue : Sh := (.cons (.agg (.cons (.dat (.slice (.int .i64))) (.cons (.dat (.slice (.slice (.int .i64)))) .nil))) (.cons (.dat (.slice (.int .i64))) (.cons (.dat (.slice (.int .i64))) .nil)))

noncomputable def I_im_OrderedValue : List (Nat × OSh) := []

noncomputable def K_im_OrderedValue : RetK := { acts := [], res := [.tmp 6, .tmp 7], sh := (.cons (.dat (.int .i64)) (.cons (.dat .bool) .nil)), obs := [], pins := [] }

noncomputable def D_im_OrderedValue : FD where
  A := A_im_OrderedValue
  ins := I_im_OrderedValue
  lend := []
  R := (Int) × (Bool)
  F := fun x => F_im_OrderedValue x.1.1.1 x.1.1.2.1 x.1.2.1 x.1.2.2.1
  emb := fun r => ([.dat (.int .i64) r.1, .dat .bool r.2], [])

noncomputable def E_im_OrderedValue : Env := envOf [(88, D_im_isOpened), (120, D_im_Field_areWeights), (121, D_im_Field_ordered)]

noncomputable def Z_im_OrderedValue : Nat → Nat → List Nat := fun _ _ => []

noncomputable def O_im_OrderedValue : List (Nat × LD) := []

noncomputable def C_im_OrderedValue : Code := (f62.body).getD .skip

/-! ### 38 loop.example/g01110/laws.eqIntS -/

noncomputable def S_lw_eqIntS_0 (k : (List (Int)) × (List (Int))) (v : Int) : Tr ((Int) ⊕ ((Unit) ⊕ (Unit))) :=
  .t (decide (v < ((List.length k.1 : Nat) : Int)))
    (.g (inR v (List.length k.1)) <|
      .g (inR v (List.length k.2)) <|
      .t ((List.getD k.1 (Int.toNat v) (0 : Int)) != (List.getD k.2 (Int.toNat v) (0 : Int)))
        (.l (.inr (.inr ())))
        (.l (.inl (IntKind.wrap .i64 (v + (1 : Int))))))
    (.l (.inr (.inl ())))

noncomputable def L_lw_eqIntS_0 (k : (List (Int)) × (List (Int))) (v : Int) : Option ((Unit) ⊕ (Unit)) := iter (fun v => (S_lw_eqIntS_0 k v).ev) v

noncomputable def DL_lw_eqIntS_0 : LD where
  head := { acts := [], S := { slots := [0, 1, 5], sh := (.cons (.dat (.slice (.int .i64))) (.cons (.dat (.slice (.int .i64))) (.cons (.dat (.int .i64)) .nil))), obs := [] } }
  exits := [(0, { acts := [], S := { slots := [], sh := .nil, obs := [] } })]
  rets := { acts := [], S := { slots := [4], sh := (.cons (.dat .bool) .nil), obs := [] } }
  K := (List (Int)) × (List (Int))
  V := Int
  R := (Unit) ⊕ (Unit)
  join := fun k v => ((k.1, (k.2, (v, ()))), ())
  sk := fun t => (t.1.1, t.1.2.1)
  sv := fun t => t.1.2.2.1
  step := S_lw_eqIntS_0
  leaf := fun _ r => .s (Unit) (Unit) r (fun _ => .l (.exit 0 (mkSt ({ slots := [], sh := .nil, obs := [] }) ((), ())))) (fun _ => .l (.ret (mkSt ({ slots := [4], sh := (.cons (.dat .bool) .nil), obs := [] }) ((false, ()), ()))))

noncomputable def T_lw_eqIntS (a1_ : List (Int)) (a2_ : List (Int)) : Tr (Bool) :=
  .t (((List.length a1_ : Nat) : Int) != ((List.length a2_ : Nat) : Int))
    (.l false)
    (.c ((Unit) ⊕ (Unit)) (L_lw_eqIntS_0 (a1_, a2_) (0 : Int)) fun r5_ =>
      .s (Unit) (Unit) r5_
        (fun _ => .l true)
        (fun _ => .l false))

noncomputable def F_lw_eqIntS (a1_ : List (Int)) (a2_ : List (Int)) : Option (Bool) := (T_lw_eqIntS a1_ a2_).ev

noncomputable def A_lw_eqIntS : Sh := (.cons (.dat (.slice (.int .i64))) (.cons (.dat (.slice (.int .i64))) .nil))

noncomputable def I_lw_eqIntS : List (Nat × OSh) := []

noncomputable def K_lw_eqIntS : RetK := { acts := [], res := [.tmp 4], sh := (.cons (.dat .bool) .nil), obs := [], pins := [] }

noncomputable def D_lw_eqIntS : FD where
  A := A_lw_eqIntS
  ins := I_lw_eqIntS
  lend := []
  R := Bool
  F := fun x => F_lw_eqIntS x.1.1 x.1.2.1
  emb := fun r => ([.dat .bool r], [])

noncomputable def E_lw_eqIntS : Env := envOf []

noncomputable def Z_lw_eqIntS : Nat → Nat → List Nat := fun _ _ => []

noncomputable def O_lw_eqIntS : List (Nat × LD) := [(0, DL_lw_eqIntS_0)]

noncomputable def C_lw_eqIntS : Code := (f38.body).getD .skip

/-! ### 19 loop.example/g01110/laws.eqIntSS -/

noncomputable def S_lw_eqIntSS_0 (k : (List (List (Int))) × (List (List (Int)))) (v : Int) : Tr ((Int) ⊕ ((Unit) ⊕ (Unit))) :=
  .t (decide (v < ((List.length k.1 : Nat) : Int)))
    (.g (inR v (List.length k.1)) <|
      .g (inR v (List.length k.2)) <|
      .c (Bool) (F_lw_eqIntS (List.getD k.1 (Int.toNat v) ([] : List (Int))) (List.getD k.2 (Int.toNat v) ([] : List (Int)))) fun r4_ =>
      .t (!r4_)
        (.l (.inr (.inr ())))
        (.l (.inl (IntKind.wrap .i64 (v + (1 : Int))))))
    (.l (.inr (.inl ())))

noncomputable def L_lw_eqIntSS_0 (k : (List (List (Int))) × (List (List (Int)))) (v : Int) : Option ((Unit) ⊕ (Unit)) := iter (fun v => (S_lw_eqIntSS_0 k v).ev) v

noncomputable def DL_lw_eqIntSS_0 : LD where
  head := { acts := [], S := { slots := [0, 1, 5], sh := (.cons (.dat (.slice (.slice (.int .i64)))) (.cons (.dat (.slice (.slice (.int .i64)))) (.cons (.dat (.int .i64)) .nil))), obs := [] } }
  exits := [(0, { acts := [], S := { slots := [], sh := .nil, obs := [] } })]
  rets := { acts := [], S := { slots := [4], sh := (.cons (.dat .bool) .nil), obs := [] } }
  K := (List (List (Int))) × (List (List (Int)))
  V := Int
  R := (Unit) ⊕ (Unit)
  join := fun k v => ((k.1, (k.2, (v, ()))), ())
  sk := fun t => (t.1.1, t.1.2.1)
  sv := fun t => t.1.2.2.1
  step := S_lw_eqIntSS_0
  leaf := fun _ r => .s (Unit) (Unit) r (fun _ => .l (.exit 0 (mkSt ({ slots := [], sh := .nil, obs := [] }) ((), ())))) (fun _ => .l (.ret (mkSt ({ slots := [4], sh := (.cons (.dat .bool) .nil), obs := [] }) ((false, ()), ()))))

noncomputable def T_lw_eqIntSS (a1_ : List (List (Int))) (a2_ : List (List (Int))) : Tr (Bool) :=
  .t (((List.length a1_ : Nat) : Int) != ((List.length a2_ : Nat) : Int))
    (.l false)
    (.c ((Unit) ⊕ (Unit)) (L_lw_eqIntSS_0 (a1_, a2_) (0 : Int)) fun r6_ =>
      .s (Unit) (Unit) r6_
        (fun _ => .l true)
        (fun _ => .l false))

noncomputable def F_lw_eqIntSS (a1_ : List (List (Int))) (a2_ : List (List (Int))) : Option (Bool) := (T_lw_eqIntSS a1_ a2_).ev

noncomputable def A_lw_eqIntSS : Sh := (.cons (.dat (.slice (.slice (.int .i64)))) (.cons (.dat (.slice (.slice (.int .i64)))) .nil))

noncomputable def I_lw_eqIntSS : List (Nat × OSh) := []

noncomputable def K_lw_eqIntSS : RetK := { acts := [], res := [.tmp 4], sh := (.cons (.dat .bool) .nil), obs := [], pins := [] }

noncomputable def D_lw_eqIntSS : FD where
  A := A_lw_eqIntSS
  ins := I_lw_eqIntSS
  lend := []
  R := Bool
  F := fun x => F_lw_eqIntSS x.1.1 x.1.2.1
  emb := fun r => ([.dat .bool r], [])

noncomputable def E_lw_eqIntSS : Env := envOf [(38, D_lw_eqIntS)]

noncomputable def Z_lw_eqIntSS : Nat → Nat → List Nat := fun _ _ => []

noncomputable def O_lw_eqIntSS : List (Nat × LD) := [(0, DL_lw_eqIntSS_0)]

noncomputable def C_lw_eqIntSS : Code := (f19.body).getD .skip

/-! ### 27 loop.example/g01110/laws.eqField -/

noncomputable def T_lw_eqField (a1_ : List (Int)) (a2_ : List (List (Int))) (a3_ : List (Int)) (a4_ : List (List (Int))) : Tr (Bool) :=
  .c (Bool) (F_lw_eqIntS a1_ a3_) fun r1_ =>
  .t (!r1_)
    (.l false)
    (.c (Bool) (F_lw_eqIntSS a2_ a4_) fun r2_ =>
      .t (!r2_)
        (.l false)
        (.l true))

noncomputable def F_lw_eqField (a1_ : List (Int)) (a2_ : List (List (Int))) (a3_ : List (Int)) (a4_ : List (List (Int))) : Option (Bool) := (T_lw_eqField a1_ a2_ a3_ a4_).ev

noncomputable def A_lw_eqField : Sh := (.cons (.agg (.cons (.dat (.slice (.int .i64))) (.cons (.dat (.slice (.slice (.int .i64)))) .nil))) (.cons (.agg (.cons (.dat (.slice (.int .i64))) (.cons (.dat (.slice (.slice (.int .i64)))) .nil))) .nil))

noncomputable def I_lw_eqField : List (Nat × OSh) := []

noncomputable def K_lw_eqField : RetK := { acts := [], res := [.tmp 4], sh := (.cons (.dat .bool) .nil), obs := [], pins := [] }

noncomputable def D_lw_eqField : FD where
  A := A_lw_eqField
  ins := I_lw_eqField
  lend := []
  R := Bool
  F := fun x => F_lw_eqField x.1.1.1 x.1.1.2.1 x.1.2.1.1 x.1.2.1.2.1
  emb := fun r => ([.dat .bool r], [])

noncomputable def E_lw_eqField : Env := envOf [(38, D_lw_eqIntS), (19, D_lw_eqIntSS)]

noncomputable def Z_lw_eqField : Nat → Nat → List Nat := fun _ _ => []

noncomputable def O_lw_eqField : List (Nat × LD) := []

noncomputable def C_lw_eqField : Code := (f27.body).getD .skip

/-! ### 11 loop.example/g01110/laws.FnExactOrderedValue -/

noncomputable def T_lw_FnExactOrderedValue (a1_ : List (Int)) (a2_ : List (List (Int))) (a3_ : List (Int)) (a4_ : List (Int)) : Tr (Bool) :=
  .t (decide ((1048576 : Int) < ((List.length a3_ : Nat) : Int)))
    (.l true)
    (.t (decide ((1048576 : Int) < ((List.length a4_ : Nat) : Int)))
        (.l true)
        (.c (Int) (F_lw_szField a1_ a2_ (1048576 : Int)) fun r1_ =>
          .t (decide (r1_ < (0 : Int)))
            (.l true)
            (.c ((List (Int)) × (List (List (Int)))) (F_lw_toField a1_ a2_) fun r2_ =>
              .c (List (Int)) (F_lw_toIntS a3_) fun r3_ =>
              .c (List (Int)) (F_lw_toIntS a4_) fun r4_ =>
              .c ((Int) × (Bool)) (F_sp_OrderedValue r2_.1 r2_.2 r3_ r4_) fun r5_ =>
              .c ((List (Int)) × (List (List (Int)))) (F_lw_toField a1_ a2_) fun r6_ =>
              .c (List (Int)) (F_lw_toIntS a3_) fun r7_ =>
              .c (List (Int)) (F_lw_toIntS a4_) fun r8_ =>
              .c ((Int) × (Bool)) (F_im_OrderedValue r6_.1 r6_.2 r7_ r8_) fun r9_ =>
              .t (r9_.1 != r5_.1)
                (.l false)
                (.t (!(r9_.2 == r5_.2))
                    (.l false)
                    (.c ((List (Int)) × (List (List (Int)))) (F_lw_toField a1_ a2_) fun r10_ =>
                      .c (Bool) (F_lw_eqField r6_.1 r6_.2 r10_.1 r10_.2) fun r11_ =>
                      .t (!r11_)
                        (.l false)
                        (.c (List (Int)) (F_lw_toIntS a3_) fun r12_ =>
                          .c (Bool) (F_lw_eqIntS r7_ r12_) fun r13_ =>
                          .t (!r13_)
                            (.l false)
                            (.c (List (Int)) (F_lw_toIntS a4_) fun r14_ =>
                              .c (Bool) (F_lw_eqIntS r8_ r14_) fun r15_ =>
                              .t (!r15_)
                                (.l false)
                                (.l true))))))))

noncomputable def F_lw_FnExactOrderedValue (a1_ : List (Int)) (a2_ : List (List (Int))) (a3_ : List (Int)) (a4_ : List (Int)) : Option (Bool) := (T_lw_FnExactOrderedValue a1_ a2_ a3_ a4_).ev

noncomputable def A_lw_FnExactOrderedValue : Sh := (.cons (.agg (.cons (.dat (.slice (.int .i64))) (.cons (.dat (.slice (.slice (.int .i64)))) .nil))) (.cons (.dat (.slice (.int .i64))) (.cons (.dat (.slice (.int .i64))) .nil)))

noncomputable def I_lw_FnExactOrderedValue : List (Nat × OSh) := []

noncomputable def K_lw_FnExactOrderedValue : RetK := { acts := [], res := [.tmp 6], sh := (.cons (.dat .bool) .nil), obs := [], pins := [] }

noncomputable def D_lw_FnExactOrderedValue : FD where
  A := A_lw_FnExactOrderedValue
  ins := I_lw_FnExactOrderedValue
  lend := []
  R := Bool
  F := fun x => F_lw_FnExactOrderedValue x.1.1.1 x.1.1.2.1 x.1.2.1 x.1.2.2.1
  emb := fun r => ([.dat .bool r], [])

noncomputable def E_lw_FnExactOrderedValue : Env := envOf [(22, D_lw_szField), (24, D_lw_toField), (36, D_lw_toIntS), (61, D_sp_OrderedValue), (62, D_im_OrderedValue), (27, D_lw_eqField), (38, D_lw_eqIntS)]

noncomputable def Z_lw_FnExactOrderedValue : Nat → Nat → List Nat := fun _ _ => []

noncomputable def O_lw_FnExactOrderedValue : List (Nat × LD) := []

noncomputable def C_lw_FnExactOrderedValue : Code := (f11.body).getD .skip
end Go.Proofs.Ythkafleokepjeaa
