import Derived.Test.YtlmbhkmaflhagaaB37
import Derived.Test.YtlmbhkmaflhagaaProg
namespace Go.Proofs.Ytlmbhkmaflhagaa
open Go.Proofs.Try
noncomputable def tabl : List (Nat × TD) := [(3, .sc (.int .i64)), (4, .sc .bool), (5, .sc (.int .u8)), (9, .sc .str), (22, .sl 3 (.int .i64) 8), (33, .sl 22 (.slice (.int .i64)) 24), (46, .st (.pair (.slice (.int .i64)) (.slice (.slice (.int .i64)))) [(22, (.slice (.int .i64))), (33, (.slice (.slice (.int .i64))))]), (51, .st (.pair (.slice (.int .i64)) (.slice (.slice (.int .i64)))) [(22, (.slice (.int .i64))), (33, (.slice (.slice (.int .i64))))]), (87, .sc (.int .u64)), (130, .sc (.int .u64)), (163, .sc (.int .u64))]
noncomputable def tt : Nat → TD := fun i => match look tabl i with
  | some d => d
  | none => .no
noncomputable def T_lw_szIntS (a1_ : List (Int)) (a2_ : Int) : Tr (Int) :=
  .t (decide ((IntKind.wrap .i64 (a2_ - ((List.length a1_ : Nat) : Int))) < (0 : Int)))
    (.l (-1 : Int))
    (.l (IntKind.wrap .i64 (a2_ - ((List.length a1_ : Nat) : Int))))
noncomputable def F_lw_szIntS (a1_ : List (Int)) (a2_ : Int) : Option (Int) := (T_lw_szIntS a1_ a2_).ev
noncomputable def A_lw_szIntS : Sh := (.cons (.dat (.slice (.int .i64))) (.cons (.dat (.int .i64)) .nil))
noncomputable def I_lw_szIntS : List (Nat × OSh) := []
noncomputable def K_lw_szIntS : RetK := { acts := [], res := [.tmp 4], sh := (.cons (.dat (.int .i64)) .nil), obs := [], pins := [] }
noncomputable def D_lw_szIntS : FD where
  A := A_lw_szIntS
  ins := I_lw_szIntS
  lend := []
  R := Int
  F := fun x => F_lw_szIntS x.1.1 x.1.2.1
  emb := fun r => ([.dat (.int .i64) r], [])
noncomputable def E_lw_szIntS : Env := envOf []
noncomputable def Z_lw_szIntS : Nat → Nat → List Nat := fun _ _ => []
noncomputable def O_lw_szIntS : List (Nat × LD) := []
noncomputable def C_lw_szIntS : Code := (f64.body).getD .skip
noncomputable def S_lw_szIntSS_0 (k : List (List (Int))) (v : (Int) × (Int)) : Tr (((Int) × (Int)) ⊕ ((Int) ⊕ (Unit))) :=
  .t (decide (v.2 < ((List.length k : Nat) : Int)))
    (.g (inR v.2 (List.length k)) <|
      .c (Int) (F_lw_szIntS (List.getD k (Int.toNat v.2) ([] : List (Int))) v.1) fun r4_ =>
      .t (decide (r4_ < (0 : Int)))
        (.l (.inr (.inr ())))
        (.l (.inl (r4_, (IntKind.wrap .i64 (v.2 + (1 : Int)))))))
    (.l (.inr (.inl v.1)))
noncomputable def L_lw_szIntSS_0 (k : List (List (Int))) (v : (Int) × (Int)) : Option ((Int) ⊕ (Unit)) := iter (fun v => (S_lw_szIntSS_0 k v).ev) v
noncomputable def DL_lw_szIntSS_0 : LD where
  head := { acts := [], S := { slots := [0, 1, 5], sh := (.cons (.dat (.slice (.slice (.int .i64)))) (.cons (.dat (.int .i64)) (.cons (.dat (.int .i64)) .nil))), obs := [] } }
  exits := [(0, { acts := [], S := { slots := [1], sh := (.cons (.dat (.int .i64)) .nil), obs := [] } })]
  rets := { acts := [], S := { slots := [4], sh := (.cons (.dat (.int .i64)) .nil), obs := [] } }
  K := List (List (Int))
  V := (Int) × (Int)
  R := (Int) ⊕ (Unit)
  join := fun k v => ((k, (v.1, (v.2, ()))), ())
  sk := fun t => t.1.1
  sv := fun t => (t.1.2.1, t.1.2.2.1)
  step := S_lw_szIntSS_0
  leaf := fun _ r => .s (Int) (Unit) r (fun a => .l (.exit 0 (mkSt ({ slots := [1], sh := (.cons (.dat (.int .i64)) .nil), obs := [] }) ((a, ()), ())))) (fun _ => .l (.ret (mkSt ({ slots := [4], sh := (.cons (.dat (.int .i64)) .nil), obs := [] }) (((-1 : Int), ()), ()))))
noncomputable def T_lw_szIntSS (a1_ : List (List (Int))) (a2_ : Int) : Tr (Int) :=
  .t (decide ((IntKind.wrap .i64 (a2_ - ((List.length a1_ : Nat) : Int))) < (0 : Int)))
    (.l (-1 : Int))
    (.c ((Int) ⊕ (Unit)) (L_lw_szIntSS_0 a1_ ((IntKind.wrap .i64 (a2_ - ((List.length a1_ : Nat) : Int))), (0 : Int))) fun r7_ =>
      .s (Int) (Unit) r7_
        (fun r8_ => .l r8_)
        (fun _ => .l (-1 : Int)))
noncomputable def F_lw_szIntSS (a1_ : List (List (Int))) (a2_ : Int) : Option (Int) := (T_lw_szIntSS a1_ a2_).ev
noncomputable def A_lw_szIntSS : Sh := (.cons (.dat (.slice (.slice (.int .i64)))) (.cons (.dat (.int .i64)) .nil))
noncomputable def I_lw_szIntSS : List (Nat × OSh) := []
noncomputable def K_lw_szIntSS : RetK := { acts := [], res := [.tmp 4], sh := (.cons (.dat (.int .i64)) .nil), obs := [], pins := [] }
noncomputable def D_lw_szIntSS : FD where
  A := A_lw_szIntSS
  ins := I_lw_szIntSS
  lend := []
  R := Int
  F := fun x => F_lw_szIntSS x.1.1 x.1.2.1
  emb := fun r => ([.dat (.int .i64) r], [])
noncomputable def E_lw_szIntSS : Env := envOf [(64, D_lw_szIntS)]
noncomputable def Z_lw_szIntSS : Nat → Nat → List Nat := fun _ _ => []
noncomputable def O_lw_szIntSS : List (Nat × LD) := [(0, DL_lw_szIntSS_0)]
noncomputable def C_lw_szIntSS : Code := (f18.body).getD .skip
noncomputable def T_lw_szField (a1_ : List (Int)) (a2_ : List (List (Int))) (a3_ : Int) : Tr (Int) :=
  .c (Int) (F_lw_szIntS a1_ a3_) fun r1_ =>
  .t (decide (r1_ < (0 : Int)))
    (.l (-1 : Int))
    (.c (Int) (F_lw_szIntSS a2_ r1_) fun r2_ =>
      .t (decide (r2_ < (0 : Int)))
        (.l (-1 : Int))
        (.l r2_))
noncomputable def F_lw_szField (a1_ : List (Int)) (a2_ : List (List (Int))) (a3_ : Int) : Option (Int) := (T_lw_szField a1_ a2_ a3_).ev
noncomputable def A_lw_szField : Sh := (.cons (.agg (.cons (.dat (.slice (.int .i64))) (.cons (.dat (.slice (.slice (.int .i64)))) .nil))) (.cons (.dat (.int .i64)) .nil))
noncomputable def I_lw_szField : List (Nat × OSh) := []
noncomputable def K_lw_szField : RetK := { acts := [], res := [.tmp 4], sh := (.cons (.dat (.int .i64)) .nil), obs := [], pins := [] }
noncomputable def D_lw_szField : FD where
  A := A_lw_szField
  ins := I_lw_szField
  lend := []
  R := Int
  F := fun x => F_lw_szField x.1.1.1 x.1.1.2.1 x.1.2.1
  emb := fun r => ([.dat (.int .i64) r], [])
noncomputable def E_lw_szField : Env := envOf [(64, D_lw_szIntS), (18, D_lw_szIntSS)]
noncomputable def Z_lw_szField : Nat → Nat → List Nat := fun _ _ => []
noncomputable def O_lw_szField : List (Nat × LD) := []
noncomputable def C_lw_szField : Code := (f36.body).getD .skip
noncomputable def S_lw_toIntS_0 (k : List (Int)) (v : (Int) × (List (Int))) : Tr (((Int) × (List (Int))) ⊕ (List (Int))) :=
  .t (decide (v.1 < ((List.length k : Nat) : Int)))
    (.g (inR v.1 (List.length k)) <|
      .g (inR v.1 (List.length v.2)) <|
      .g (decide ((Int.toNat v.1) < List.length v.2)) <|
      .l (.inl ((IntKind.wrap .i64 (v.1 + (1 : Int))), (List.set v.2 (Int.toNat v.1) (List.getD k (Int.toNat v.1) (0 : Int))))))
    (.l (.inr v.2))
noncomputable def L_lw_toIntS_0 (k : List (Int)) (v : (Int) × (List (Int))) : Option (List (Int)) := iter (fun v => (S_lw_toIntS_0 k v).ev) v
noncomputable def DL_lw_toIntS_0 : LD where
  head := { acts := [], S := { slots := [0, 3, 4], sh := (.cons (.dat (.slice (.int .i64))) (.cons (.arr 7) (.cons (.dat (.int .i64)) .nil))), obs := [(7, .arr 3 (.int .i64))] } }
  exits := [(0, { acts := [], S := { slots := [3], sh := (.cons (.arr 7) .nil), obs := [(7, .arr 3 (.int .i64))] } })]
  rets := { acts := [], S := { slots := [], sh := .nil, obs := [] } }
  K := List (Int)
  V := (Int) × (List (Int))
  R := List (Int)
  join := fun k v => ((k, ((), (v.1, ()))), (v.2, ()))
  sk := fun t => t.1.1
  sv := fun t => (t.1.2.2.1, t.2.1)
  step := S_lw_toIntS_0
  leaf := fun _ r => .l (.exit 0 (mkSt ({ slots := [3], sh := (.cons (.arr 7) .nil), obs := [(7, .arr 3 (.int .i64))] }) (((), ()), (r, ()))))
noncomputable def T_lw_toIntS (a1_ : List (Int)) : Tr (List (Int)) :=
  .g (decide ((0 : Int) ≤ ((List.length a1_ : Nat) : Int)) && decide (((List.length a1_ : Nat) : Int) ≤ ((List.length a1_ : Nat) : Int)) && decide (((8 : Nat) : Int) * ((List.length a1_ : Nat) : Int) ≤ 281474976710656)) <|
  .c (List (Int)) (L_lw_toIntS_0 a1_ ((0 : Int), (List.replicate (Int.toNat ((List.length a1_ : Nat) : Int)) (0 : Int)))) fun r5_ =>
  .l r5_
noncomputable def F_lw_toIntS (a1_ : List (Int)) : Option (List (Int)) := (T_lw_toIntS a1_).ev
noncomputable def A_lw_toIntS : Sh := (.cons (.dat (.slice (.int .i64))) .nil)
noncomputable def I_lw_toIntS : List (Nat × OSh) := []
noncomputable def K_lw_toIntS : RetK := { acts := [.ren 7 0], res := [.tmp 2], sh := (.cons (.arr 0) .nil), obs := [(0, .arr 3 (.int .i64))], pins := [] }
noncomputable def D_lw_toIntS : FD where
  A := A_lw_toIntS
  ins := I_lw_toIntS
  lend := []
  R := List (Int)
  F := fun x => F_lw_toIntS x.1.1
  emb := fun r => ([.arr 0], [(0, .arr 3 (.int .i64) r)])
noncomputable def E_lw_toIntS : Env := envOf []
noncomputable def Z_lw_toIntS : Nat → Nat → List Nat := fun _ _ => []
noncomputable def O_lw_toIntS : List (Nat × LD) := [(0, DL_lw_toIntS_0)]
noncomputable def C_lw_toIntS : Code := (f39.body).getD .skip
noncomputable def S_lw_toIntSS_0 (k : List (List (Int))) (v : (Int) × (List (List (Int)))) : Tr (((Int) × (List (List (Int)))) ⊕ (List (List (Int)))) :=
  .t (decide (v.1 < ((List.length k : Nat) : Int)))
    (.g (inR v.1 (List.length k)) <|
      .c (List (Int)) (F_lw_toIntS (List.getD k (Int.toNat v.1) ([] : List (Int)))) fun r4_ =>
      .g (inR v.1 (List.length v.2)) <|
      .g (decide ((Int.toNat v.1) < List.length v.2)) <|
      .l (.inl ((IntKind.wrap .i64 (v.1 + (1 : Int))), (List.set v.2 (Int.toNat v.1) r4_))))
    (.l (.inr v.2))
noncomputable def L_lw_toIntSS_0 (k : List (List (Int))) (v : (Int) × (List (List (Int)))) : Option (List (List (Int))) := iter (fun v => (S_lw_toIntSS_0 k v).ev) v
noncomputable def DL_lw_toIntSS_0 : LD where
  head := { acts := [], S := { slots := [0, 3, 4], sh := (.cons (.dat (.slice (.slice (.int .i64)))) (.cons (.arr 7) (.cons (.dat (.int .i64)) .nil))), obs := [(7, .rows 22 3 (.int .i64))] } }
  exits := [(0, { acts := [], S := { slots := [3], sh := (.cons (.arr 7) .nil), obs := [(7, .rows 22 3 (.int .i64))] } })]
  rets := { acts := [], S := { slots := [], sh := .nil, obs := [] } }
  K := List (List (Int))
  V := (Int) × (List (List (Int)))
  R := List (List (Int))
  join := fun k v => ((k, ((), (v.1, ()))), (v.2, ()))
  sk := fun t => t.1.1
  sv := fun t => (t.1.2.2.1, t.2.1)
  step := S_lw_toIntSS_0
  leaf := fun _ r => .l (.exit 0 (mkSt ({ slots := [3], sh := (.cons (.arr 7) .nil), obs := [(7, .rows 22 3 (.int .i64))] }) (((), ()), (r, ()))))
noncomputable def T_lw_toIntSS (a1_ : List (List (Int))) : Tr (List (List (Int))) :=
  .g (decide ((0 : Int) ≤ ((List.length a1_ : Nat) : Int)) && decide (((List.length a1_ : Nat) : Int) ≤ ((List.length a1_ : Nat) : Int)) && decide (((24 : Nat) : Int) * ((List.length a1_ : Nat) : Int) ≤ 281474976710656)) <|
  .c (List (List (Int))) (L_lw_toIntSS_0 a1_ ((0 : Int), (List.replicate (Int.toNat ((List.length a1_ : Nat) : Int)) ([] : List (Int))))) fun r6_ =>
  .l r6_
noncomputable def F_lw_toIntSS (a1_ : List (List (Int))) : Option (List (List (Int))) := (T_lw_toIntSS a1_).ev
noncomputable def A_lw_toIntSS : Sh := (.cons (.dat (.slice (.slice (.int .i64)))) .nil)
noncomputable def I_lw_toIntSS : List (Nat × OSh) := []
noncomputable def K_lw_toIntSS : RetK := { acts := [.ren 7 0], res := [.tmp 2], sh := (.cons (.arr 0) .nil), obs := [(0, .rows 22 3 (.int .i64))], pins := [] }
noncomputable def D_lw_toIntSS : FD where
  A := A_lw_toIntSS
  ins := I_lw_toIntSS
  lend := []
  R := List (List (Int))
  F := fun x => F_lw_toIntSS x.1.1
  emb := fun r => ([.arr 0], [(0, .rows 22 3 (.int .i64) r none)])
noncomputable def E_lw_toIntSS : Env := envOf [(39, D_lw_toIntS)]
noncomputable def Z_lw_toIntSS : Nat → Nat → List Nat := fun r i => match look [(1, [(2, [1000000])])] r with
  | some l => (look l i).getD []
  | none => []
noncomputable def O_lw_toIntSS : List (Nat × LD) := [(0, DL_lw_toIntSS_0)]
noncomputable def C_lw_toIntSS : Code := (f20.body).getD .skip
noncomputable def T_lw_toField (a1_ : List (Int)) (a2_ : List (List (Int))) : Tr ((List (Int)) × (List (List (Int)))) :=
  .c (List (Int)) (F_lw_toIntS a1_) fun r1_ =>
  .c (List (List (Int))) (F_lw_toIntSS a2_) fun r2_ =>
  .l (r1_, r2_)
noncomputable def F_lw_toField (a1_ : List (Int)) (a2_ : List (List (Int))) : Option ((List (Int)) × (List (List (Int)))) := (T_lw_toField a1_ a2_).ev
noncomputable def A_lw_toField : Sh := (.cons (.agg (.cons (.dat (.slice (.int .i64))) (.cons (.dat (.slice (.slice (.int .i64)))) .nil))) .nil)
noncomputable def I_lw_toField : List (Nat × OSh) := []
noncomputable def K_lw_toField : RetK := { acts := [.ren 384 4, .ren 640 5], res := [.cell 2 51], sh := (.cons (.agg (.cons (.arr 4) (.cons (.arr 5) .nil))) .nil), obs := [(4, .arr 3 (.int .i64)), (5, .rows 22 3 (.int .i64))], pins := [] }
noncomputable def D_lw_toField : FD where
  A := A_lw_toField
  ins := I_lw_toField
  lend := []
  R := (List (Int)) × (List (List (Int)))
  F := fun x => F_lw_toField x.1.1.1 x.1.1.2.1
  emb := fun r => ([.agg [.arr 4, .arr 5]], [(4, .arr 3 (.int .i64) r.1), (5, .rows 22 3 (.int .i64) r.2 none)])
noncomputable def E_lw_toField : Env := envOf [(39, D_lw_toIntS), (20, D_lw_toIntSS)]
noncomputable def Z_lw_toField : Nat → Nat → List Nat := fun _ _ => []
noncomputable def O_lw_toField : List (Nat × LD) := []
noncomputable def C_lw_toField : Code := (f38.body).getD .skip
noncomputable def T_sp_l1In (a1_ : Int) (a2_ : Int) (a3_ : Int) : Tr (Bool) :=
  .t (decide (a2_ ≤ a1_))
    (.l (decide (a1_ ≤ a3_)))
    (.l false)
noncomputable def F_sp_l1In (a1_ : Int) (a2_ : Int) (a3_ : Int) : Option (Bool) := (T_sp_l1In a1_ a2_ a3_).ev
noncomputable def A_sp_l1In : Sh := (.cons (.dat (.int .i64)) (.cons (.dat (.int .i64)) (.cons (.dat (.int .i64)) .nil)))
noncomputable def I_sp_l1In : List (Nat × OSh) := []
noncomputable def K_sp_l1In : RetK := { acts := [], res := [.tmp 6], sh := (.cons (.dat .bool) .nil), obs := [], pins := [] }
noncomputable def D_sp_l1In : FD where
  A := A_sp_l1In
  ins := I_sp_l1In
  lend := []
  R := Bool
  F := fun x => F_sp_l1In x.1.1 x.1.2.1 x.1.2.2.1
  emb := fun r => ([.dat .bool r], [])
noncomputable def E_sp_l1In : Env := envOf []
noncomputable def Z_sp_l1In : Nat → Nat → List Nat := fun _ _ => []
noncomputable def O_sp_l1In : List (Nat × LD) := []
noncomputable def C_sp_l1In : Code := (f134.body).getD .skip
noncomputable def S_sp_l2Row_0 (k : (List (Int)) × ((Int) × (Int))) (v : Int) : Tr ((Int) ⊕ ((Unit) ⊕ (Unit))) :=
  .t (decide (v < ((List.length k.1 : Nat) : Int)))
    (.g (inR v (List.length k.1)) <|
      .c (Bool) (F_sp_l1In (List.getD k.1 (Int.toNat v) (0 : Int)) (0 : Int) k.2.2) fun r5_ =>
      .t (!r5_)
        (.l (.inr (.inr ())))
        (.l (.inl (IntKind.wrap .i64 (v + (1 : Int))))))
    (.l (.inr (.inl ())))
noncomputable def L_sp_l2Row_0 (k : (List (Int)) × ((Int) × (Int))) (v : Int) : Option ((Unit) ⊕ (Unit)) := iter (fun v => (S_sp_l2Row_0 k v).ev) v
noncomputable def DL_sp_l2Row_0 : LD where
  head := { acts := [], S := { slots := [0, 1, 2, 7], sh := (.cons (.dat (.slice (.int .i64))) (.cons (.dat (.int .i64)) (.cons (.dat (.int .i64)) (.cons (.dat (.int .i64)) .nil)))), obs := [] } }
  exits := [(0, { acts := [], S := { slots := [0, 1], sh := (.cons (.dat (.slice (.int .i64))) (.cons (.dat (.int .i64)) .nil)), obs := [] } })]
  rets := { acts := [], S := { slots := [6], sh := (.cons (.dat .bool) .nil), obs := [] } }
  K := (List (Int)) × ((Int) × (Int))
  V := Int
  R := (Unit) ⊕ (Unit)
  join := fun k v => ((k.1, (k.2.1, (k.2.2, (v, ())))), ())
  sk := fun t => (t.1.1, (t.1.2.1, t.1.2.2.1))
  sv := fun t => t.1.2.2.2.1
  step := S_sp_l2Row_0
  leaf := fun k r => .s (Unit) (Unit) r (fun _ => .l (.exit 0 (mkSt ({ slots := [0, 1], sh := (.cons (.dat (.slice (.int .i64))) (.cons (.dat (.int .i64)) .nil)), obs := [] }) ((k.1, (k.2.1, ())), ())))) (fun _ => .l (.ret (mkSt ({ slots := [6], sh := (.cons (.dat .bool) .nil), obs := [] }) ((false, ()), ()))))
noncomputable def T_sp_l2Row (a1_ : List (Int)) (a2_ : Int) (a3_ : Int) : Tr (Bool) :=
  .c ((Unit) ⊕ (Unit)) (L_sp_l2Row_0 (a1_, (a2_, a3_)) (0 : Int)) fun r9_ =>
  .s (Unit) (Unit) r9_
    (fun _ => .l (((List.length a1_ : Nat) : Int) == a2_))
    (fun _ => .l false)
noncomputable def F_sp_l2Row (a1_ : List (Int)) (a2_ : Int) (a3_ : Int) : Option (Bool) := (T_sp_l2Row a1_ a2_ a3_).ev
noncomputable def A_sp_l2Row : Sh := (.cons (.dat (.slice (.int .i64))) (.cons (.dat (.int .i64)) (.cons (.dat (.int .i64)) .nil)))
noncomputable def I_sp_l2Row : List (Nat × OSh) := []
noncomputable def K_sp_l2Row : RetK := { acts := [], res := [.tmp 6], sh := (.cons (.dat .bool) .nil), obs := [], pins := [] }
noncomputable def D_sp_l2Row : FD where
  A := A_sp_l2Row
  ins := I_sp_l2Row
  lend := []
  R := Bool
  F := fun x => F_sp_l2Row x.1.1 x.1.2.1 x.1.2.2.1
  emb := fun r => ([.dat .bool r], [])
noncomputable def E_sp_l2Row : Env := envOf [(134, D_sp_l1In)]
noncomputable def Z_sp_l2Row : Nat → Nat → List Nat := fun _ _ => []
noncomputable def O_sp_l2Row : List (Nat × LD) := [(0, DL_sp_l2Row_0)]
noncomputable def C_sp_l2Row : Code := (f133.body).getD .skip
noncomputable def S_sp_l2Good_0 (k : (Int) × ((List (Int)) × (List (List (Int))))) (v : Int) : Tr ((Int) ⊕ ((Unit) ⊕ (Unit))) :=
  .t (decide (v < ((List.length k.2.2 : Nat) : Int)))
    (.g (inR v (List.length k.2.2)) <|
      .c (Bool) (F_sp_l2Row (List.getD k.2.2 (Int.toNat v) ([] : List (Int))) k.1 (99 : Int)) fun r5_ =>
      .t (!r5_)
        (.l (.inr (.inr ())))
        (.l (.inl (IntKind.wrap .i64 (v + (1 : Int))))))
    (.l (.inr (.inl ())))
noncomputable def L_sp_l2Good_0 (k : (Int) × ((List (Int)) × (List (List (Int))))) (v : Int) : Option ((Unit) ⊕ (Unit)) := iter (fun v => (S_sp_l2Good_0 k v).ev) v
noncomputable def DL_sp_l2Good_0 : LD where
  head := { acts := [], S := { slots := [1, 3, 4], sh := (.cons (.box 1 0) (.cons (.dat (.int .i64)) (.cons (.dat (.int .i64)) .nil))), obs := [(1, .cells (.cons (.dat (.slice (.int .i64))) (.cons (.dat (.slice (.slice (.int .i64)))) .nil)))] } }
  exits := [(0, { acts := [], S := { slots := [1, 3], sh := (.cons (.box 1 0) (.cons (.dat (.int .i64)) .nil)), obs := [(1, .cells (.cons (.dat (.slice (.int .i64))) (.cons (.dat (.slice (.slice (.int .i64)))) .nil)))] } })]
  rets := { acts := [], S := { slots := [2], sh := (.cons (.dat .bool) .nil), obs := [] } }
  K := (Int) × ((List (Int)) × (List (List (Int))))
  V := Int
  R := (Unit) ⊕ (Unit)
  join := fun k v => (((), (k.1, (v, ()))), ((k.2.1, (k.2.2, ())), ()))
  sk := fun t => (t.1.2.1, (t.2.1.1, t.2.1.2.1))
  sv := fun t => t.1.2.2.1
  step := S_sp_l2Good_0
  leaf := fun k r => .s (Unit) (Unit) r (fun _ => .l (.exit 0 (mkSt ({ slots := [1, 3], sh := (.cons (.box 1 0) (.cons (.dat (.int .i64)) .nil)), obs := [(1, .cells (.cons (.dat (.slice (.int .i64))) (.cons (.dat (.slice (.slice (.int .i64)))) .nil)))] }) (((), (k.1, ())), ((k.2.1, (k.2.2, ())), ()))))) (fun _ => .l (.ret (mkSt ({ slots := [2], sh := (.cons (.dat .bool) .nil), obs := [] }) ((false, ()), ()))))
noncomputable def T_sp_l2Good (a1_ : List (Int)) (a2_ : List (List (Int))) : Tr (Bool) :=
  .c ((Unit) ⊕ (Unit)) (L_sp_l2Good_0 (((List.length a1_ : Nat) : Int), (a1_, a2_)) (0 : Int)) fun r10_ =>
  .s (Unit) (Unit) r10_
    (fun _ => .c (Bool) (F_sp_l1In ((List.length a1_ : Nat) : Int) (1 : Int) (7 : Int)) fun r13_ =>
      .t r13_
        (.c (Bool) (F_sp_l2Row a1_ ((List.length a1_ : Nat) : Int) (99 : Int)) fun r14_ =>
          .t r14_
            (.l (decide (((List.length a2_ : Nat) : Int) ≤ (7 : Int))))
            (.l false))
        (.l false))
    (fun _ => .l false)
noncomputable def F_sp_l2Good (a1_ : List (Int)) (a2_ : List (List (Int))) : Option (Bool) := (T_sp_l2Good a1_ a2_).ev
noncomputable def A_sp_l2Good : Sh := (.cons (.agg (.cons (.dat (.slice (.int .i64))) (.cons (.dat (.slice (.slice (.int .i64)))) .nil))) .nil)
noncomputable def I_sp_l2Good : List (Nat × OSh) := []
noncomputable def K_sp_l2Good : RetK := { acts := [], res := [.tmp 2], sh := (.cons (.dat .bool) .nil), obs := [], pins := [] }
noncomputable def D_sp_l2Good : FD where
  A := A_sp_l2Good
  ins := I_sp_l2Good
  lend := []
  R := Bool
  F := fun x => F_sp_l2Good x.1.1.1 x.1.1.2.1
  emb := fun r => ([.dat .bool r], [])
noncomputable def E_sp_l2Good : Env := envOf [(133, D_sp_l2Row), (134, D_sp_l1In)]
noncomputable def Z_sp_l2Good : Nat → Nat → List Nat := fun _ _ => []
noncomputable def O_sp_l2Good : List (Nat × LD) := [(0, DL_sp_l2Good_0)]
noncomputable def C_sp_l2Good : Code := (f100.body).getD .skip
noncomputable def T_sp_l11Objective (a1_ : Int) : Tr (Bool) :=
  .c (Bool) (F_sp_l1In a1_ (1 : Int) (5 : Int)) fun r1_ =>
  .l r1_
noncomputable def F_sp_l11Objective (a1_ : Int) : Option (Bool) := (T_sp_l11Objective a1_).ev
noncomputable def A_sp_l11Objective : Sh := (.cons (.dat (.int .i64)) .nil)
noncomputable def I_sp_l11Objective : List (Nat × OSh) := []
noncomputable def K_sp_l11Objective : RetK := { acts := [], res := [.tmp 2], sh := (.cons (.dat .bool) .nil), obs := [], pins := [] }
noncomputable def D_sp_l11Objective : FD where
  A := A_sp_l11Objective
  ins := I_sp_l11Objective
  lend := []
  R := Bool
  F := fun x => F_sp_l11Objective x.1.1
  emb := fun r => ([.dat .bool r], [])
noncomputable def E_sp_l11Objective : Env := envOf [(134, D_sp_l1In)]
noncomputable def Z_sp_l11Objective : Nat → Nat → List Nat := fun _ _ => []
noncomputable def O_sp_l11Objective : List (Nat × LD) := []
noncomputable def C_sp_l11Objective : Code := (f160.body).getD .skip
noncomputable def T_sp_l11Two (a1_ : List (Int)) (a2_ : List (List (Int))) (a3_ : Int) (a4_ : Int) : Tr (Bool) :=
  .c (Bool) (F_sp_l2Good a1_ a2_) fun r1_ =>
  .t r1_
    (.c (Bool) (F_sp_l11Objective a3_) fun r2_ =>
      .t r2_
        (.c (Bool) (F_sp_l11Objective a4_) fun r3_ =>
          .l r3_)
        (.l false))
    (.l false)
noncomputable def F_sp_l11Two (a1_ : List (Int)) (a2_ : List (List (Int))) (a3_ : Int) (a4_ : Int) : Option (Bool) := (T_sp_l11Two a1_ a2_ a3_ a4_).ev
noncomputable def A_sp_l11Two : Sh := (.cons (.agg (.cons (.dat (.slice (.int .i64))) (.cons (.dat (.slice (.slice (.int .i64)))) .nil))) (.cons (.dat (.int .i64)) (.cons (.dat (.int .i64)) .nil)))
noncomputable def I_sp_l11Two : List (Nat × OSh) := []
noncomputable def K_sp_l11Two : RetK := { acts := [], res := [.tmp 6], sh := (.cons (.dat .bool) .nil), obs := [], pins := [] }
noncomputable def D_sp_l11Two : FD where
  A := A_sp_l11Two
  ins := I_sp_l11Two
  lend := []
  R := Bool
  F := fun x => F_sp_l11Two x.1.1.1 x.1.1.2.1 x.1.2.1 x.1.2.2.1
  emb := fun r => ([.dat .bool r], [])
noncomputable def E_sp_l11Two : Env := envOf [(100, D_sp_l2Good), (160, D_sp_l11Objective)]
noncomputable def Z_sp_l11Two : Nat → Nat → List Nat := fun _ _ => []
noncomputable def O_sp_l11Two : List (Nat × LD) := []
noncomputable def C_sp_l11Two : Code := (f113.body).getD .skip
noncomputable def S_sp_l2Bits_0 (k : (Int) × (Int)) (v : (Int) × (List (Int))) : Tr (((Int) × (List (Int))) ⊕ (List (Int))) :=
  .t (decide (v.1 < k.1))
    (.g (decide ((0 : Int) ≤ v.1)) <|
      .t ((IntKind.wrap .i64 (BitVec.toNat ((BitVec.ofInt (IntKind.bits .i64) (Int.fdiv k.2 (2 ^ (min (Int.toNat v.1) (IntKind.bits .i64))))) &&& (BitVec.ofInt (IntKind.bits .i64) (1 : Int))))) == (1 : Int))
        (.g (decide ((List.length v.2 + List.length ([v.1] : List (Int))) * 8 ≤ 140737488355328)) <|
          .l (.inl ((IntKind.wrap .i64 (v.1 + (1 : Int))), (v.2 ++ ([v.1] : List (Int))))))
        (.l (.inl ((IntKind.wrap .i64 (v.1 + (1 : Int))), v.2))))
    (.l (.inr v.2))
noncomputable def L_sp_l2Bits_0 (k : (Int) × (Int)) (v : (Int) × (List (Int))) : Option (List (Int)) := iter (fun v => (S_sp_l2Bits_0 k v).ev) v
noncomputable def DL_sp_l2Bits_0 : LD where
  head := { acts := [], S := { slots := [0, 1, 5, 6], sh := (.cons (.dat (.int .i64)) (.cons (.dat (.int .i64)) (.cons (.arr 7) (.cons (.dat (.int .i64)) .nil)))), obs := [(7, .arr 3 (.int .i64))] } }
  exits := [(0, { acts := [], S := { slots := [5], sh := (.cons (.arr 7) .nil), obs := [(7, .arr 3 (.int .i64))] } })]
  rets := { acts := [], S := { slots := [], sh := .nil, obs := [] } }
  K := (Int) × (Int)
  V := (Int) × (List (Int))
  R := List (Int)
  join := fun k v => ((k.1, (k.2, ((), (v.1, ())))), (v.2, ()))
  sk := fun t => (t.1.1, t.1.2.1)
  sv := fun t => (t.1.2.2.2.1, t.2.1)
  step := S_sp_l2Bits_0
  leaf := fun _ r => .l (.exit 0 (mkSt ({ slots := [5], sh := (.cons (.arr 7) .nil), obs := [(7, .arr 3 (.int .i64))] }) (((), ()), (r, ()))))
noncomputable def T_sp_l2Bits (a1_ : Int) (a2_ : Int) : Tr (List (Int)) :=
  .c (List (Int)) (L_sp_l2Bits_0 (a1_, a2_) ((0 : Int), ([] : List (Int)))) fun r6_ =>
  .l r6_
noncomputable def F_sp_l2Bits (a1_ : Int) (a2_ : Int) : Option (List (Int)) := (T_sp_l2Bits a1_ a2_).ev
noncomputable def A_sp_l2Bits : Sh := (.cons (.dat (.int .i64)) (.cons (.dat (.int .i64)) .nil))
noncomputable def I_sp_l2Bits : List (Nat × OSh) := []
noncomputable def K_sp_l2Bits : RetK := { acts := [.ren 7 0], res := [.tmp 4], sh := (.cons (.arr 0) .nil), obs := [(0, .arr 3 (.int .i64))], pins := [] }
noncomputable def D_sp_l2Bits : FD where
  A := A_sp_l2Bits
  ins := I_sp_l2Bits
  lend := []
  R := List (Int)
  F := fun x => F_sp_l2Bits x.1.1 x.1.2.1
  emb := fun r => ([.arr 0], [(0, .arr 3 (.int .i64) r)])
noncomputable def E_sp_l2Bits : Env := envOf []
noncomputable def Z_sp_l2Bits : Nat → Nat → List Nat := fun _ _ => []
noncomputable def O_sp_l2Bits : List (Nat × LD) := [(0, DL_sp_l2Bits_0)]
noncomputable def C_sp_l2Bits : Code := (f161.body).getD .skip
noncomputable def S_sp_l2Before_0 (k : (List (Int)) × (List (Int))) (v : Int) : Tr ((Int) ⊕ ((Unit) ⊕ (Bool))) :=
  .t (decide (v < ((List.length k.1 : Nat) : Int)))
    (.g (inR v (List.length k.1)) <|
      .g (inR v (List.length k.2)) <|
      .t ((List.getD k.1 (Int.toNat v) (0 : Int)) != (List.getD k.2 (Int.toNat v) (0 : Int)))
        (.g (inR v (List.length k.1)) <|
          .g (inR v (List.length k.2)) <|
          .l (.inr (.inr (decide ((List.getD k.1 (Int.toNat v) (0 : Int)) < (List.getD k.2 (Int.toNat v) (0 : Int)))))))
        (.l (.inl (IntKind.wrap .i64 (v + (1 : Int))))))
    (.l (.inr (.inl ())))
noncomputable def L_sp_l2Before_0 (k : (List (Int)) × (List (Int))) (v : Int) : Option ((Unit) ⊕ (Bool)) := iter (fun v => (S_sp_l2Before_0 k v).ev) v
noncomputable def DL_sp_l2Before_0 : LD where
  head := { acts := [], S := { slots := [0, 1, 5], sh := (.cons (.dat (.slice (.int .i64))) (.cons (.dat (.slice (.int .i64))) (.cons (.dat (.int .i64)) .nil))), obs := [] } }
  exits := [(0, { acts := [], S := { slots := [], sh := .nil, obs := [] } })]
  rets := { acts := [], S := { slots := [4], sh := (.cons (.dat .bool) .nil), obs := [] } }
  K := (List (Int)) × (List (Int))
  V := Int
  R := (Unit) ⊕ (Bool)
  join := fun k v => ((k.1, (k.2, (v, ()))), ())
  sk := fun t => (t.1.1, t.1.2.1)
  sv := fun t => t.1.2.2.1
  step := S_sp_l2Before_0
  leaf := fun _ r => .s (Unit) (Bool) r (fun _ => .l (.exit 0 (mkSt ({ slots := [], sh := .nil, obs := [] }) ((), ())))) (fun b => .l (.ret (mkSt ({ slots := [4], sh := (.cons (.dat .bool) .nil), obs := [] }) ((b, ()), ()))))
noncomputable def T_sp_l2Before (a1_ : List (Int)) (a2_ : List (Int)) : Tr (Bool) :=
  .t (((List.length a1_ : Nat) : Int) != ((List.length a2_ : Nat) : Int))
    (.l (decide (((List.length a1_ : Nat) : Int) < ((List.length a2_ : Nat) : Int))))
    (.c ((Unit) ⊕ (Bool)) (L_sp_l2Before_0 (a1_, a2_) (0 : Int)) fun r5_ =>
      .s (Unit) (Bool) r5_
        (fun _ => .l false)
        (fun r7_ => .l r7_))
noncomputable def F_sp_l2Before (a1_ : List (Int)) (a2_ : List (Int)) : Option (Bool) := (T_sp_l2Before a1_ a2_).ev
noncomputable def A_sp_l2Before : Sh := (.cons (.dat (.slice (.int .i64))) (.cons (.dat (.slice (.int .i64))) .nil))
noncomputable def I_sp_l2Before : List (Nat × OSh) := []
noncomputable def K_sp_l2Before : RetK := { acts := [], res := [.tmp 4], sh := (.cons (.dat .bool) .nil), obs := [], pins := [] }
noncomputable def D_sp_l2Before : FD where
  A := A_sp_l2Before
  ins := I_sp_l2Before
  lend := []
  R := Bool
  F := fun x => F_sp_l2Before x.1.1 x.1.2.1
  emb := fun r => ([.dat .bool r], [])
noncomputable def E_sp_l2Before : Env := envOf []
noncomputable def Z_sp_l2Before : Nat → Nat → List Nat := fun _ _ => []
noncomputable def O_sp_l2Before : List (Nat × LD) := [(0, DL_sp_l2Before_0)]
noncomputable def C_sp_l2Before : Code := (f162.body).getD .skip
noncomputable def S_sp_l2Sets_2 (k : (Int) × ((List (List (Int))) × ((Int) × (List (Int))))) (v : Int) : Tr ((Int) ⊕ (Int)) :=
  .t (decide ((0 : Int) < v))
    (.g (inR (IntKind.wrap .i64 (v - (1 : Int))) (List.length k.2.1)) <|
      .c (Bool) (F_sp_l2Before k.2.2.2 (List.getD k.2.1 (Int.toNat (IntKind.wrap .i64 (v - (1 : Int)))) ([] : List (Int)))) fun r26_ =>
      .t r26_
        (.l (.inl (IntKind.wrap .i64 (v - (1 : Int)))))
        (.l (.inr v)))
    (.l (.inr v))
noncomputable def L_sp_l2Sets_2 (k : (Int) × ((List (List (Int))) × ((Int) × (List (Int))))) (v : Int) : Option (Int) := iter (fun v => (S_sp_l2Sets_2 k v).ev) v
noncomputable def DL_sp_l2Sets_2 : LD where
  head := { acts := [], S := { slots := [0, 3, 4, 5, 6], sh := (.cons (.dat (.int .i64)) (.cons (.dat (.slice (.slice (.int .i64)))) (.cons (.dat (.int .i64)) (.cons (.arr 1024) (.cons (.dat (.int .i64)) .nil))))), obs := [(1024, .arr 3 (.int .i64))] } }
  exits := [(2, { acts := [], S := { slots := [0, 3, 4, 5, 6], sh := (.cons (.dat (.int .i64)) (.cons (.dat (.slice (.slice (.int .i64)))) (.cons (.dat (.int .i64)) (.cons (.arr 1024) (.cons (.dat (.int .i64)) .nil))))), obs := [(1024, .arr 3 (.int .i64))] } })]
  rets := { acts := [], S := { slots := [], sh := .nil, obs := [] } }
  K := (Int) × ((List (List (Int))) × ((Int) × (List (Int))))
  V := Int
  R := Int
  join := fun k v => ((k.1, (k.2.1, (k.2.2.1, ((), (v, ()))))), (k.2.2.2, ()))
  sk := fun t => (t.1.1, (t.1.2.1, (t.1.2.2.1, t.2.1)))
  sv := fun t => t.1.2.2.2.2.1
  step := S_sp_l2Sets_2
  leaf := fun k r => .l (.exit 2 (mkSt ({ slots := [0, 3, 4, 5, 6], sh := (.cons (.dat (.int .i64)) (.cons (.dat (.slice (.slice (.int .i64)))) (.cons (.dat (.int .i64)) (.cons (.arr 1024) (.cons (.dat (.int .i64)) .nil))))), obs := [(1024, .arr 3 (.int .i64))] }) ((k.1, (k.2.1, (k.2.2.1, ((), (r, ()))))), (k.2.2.2, ()))))
noncomputable def S_sp_l2Sets_0 (k : Int) (v : (List (List (Int))) × (Int)) : Tr (((List (List (Int))) × (Int)) ⊕ (List (List (Int)))) :=
  .g (decide ((0 : Int) ≤ k)) <|
  .t (decide (v.2 < (IntKind.wrap .i64 ((1 : Int) * 2 ^ (min (Int.toNat k) (IntKind.bits .i64))))))
    (.c (List (Int)) (F_sp_l2Bits k v.2) fun r20_ =>
      .c (Int) (L_sp_l2Sets_2 (k, (v.1, (v.2, r20_))) ((List.length v.1 : Nat) : Int)) fun r32_ =>
      .g (decide ((0 : Int) ≤ r32_) && decide (r32_ ≤ ((List.length v.1 : Nat) : Int))) <|
      .g (decide ((List.length ([] : List (List (Int))) + List.length (List.drop 0 (List.take (Int.toNat r32_) v.1))) * 24 ≤ 140737488355328)) <|
      .g (decide ((List.length (([] : List (List (Int))) ++ (List.drop 0 (List.take (Int.toNat r32_) v.1))) + List.length ([r20_] : List (List (Int)))) * 24 ≤ 140737488355328)) <|
      .g (decide ((0 : Int) ≤ r32_) && decide (r32_ ≤ ((List.length v.1 : Nat) : Int))) <|
      .g (decide ((List.length ((([] : List (List (Int))) ++ (List.drop 0 (List.take (Int.toNat r32_) v.1))) ++ ([r20_] : List (List (Int)))) + List.length (List.drop (Int.toNat r32_) (List.take (List.length v.1) v.1))) * 24 ≤ 140737488355328)) <|
      .l (.inl ((((([] : List (List (Int))) ++ (List.drop 0 (List.take (Int.toNat r32_) v.1))) ++ ([r20_] : List (List (Int)))) ++ (List.drop (Int.toNat r32_) (List.take (List.length v.1) v.1))), (IntKind.wrap .i64 (v.2 + (1 : Int))))))
    (.l (.inr v.1))
noncomputable def L_sp_l2Sets_0 (k : Int) (v : (List (List (Int))) × (Int)) : Option (List (List (Int))) := iter (fun v => (S_sp_l2Sets_0 k v).ev) v
noncomputable def DL_sp_l2Sets_0 : LD where
  head := { acts := [.fz 7, .fz 32], S := { slots := [0, 3, 4], sh := (.cons (.dat (.int .i64)) (.cons (.dat (.slice (.slice (.int .i64)))) (.cons (.dat (.int .i64)) .nil))), obs := [] } }
  exits := [(0, { acts := [], S := { slots := [3], sh := (.cons (.dat (.slice (.slice (.int .i64)))) .nil), obs := [] } })]
  rets := { acts := [], S := { slots := [], sh := .nil, obs := [] } }
  K := Int
  V := (List (List (Int))) × (Int)
  R := List (List (Int))
  join := fun k v => ((k, (v.1, (v.2, ()))), ())
  sk := fun t => t.1.1
  sv := fun t => (t.1.2.1, t.1.2.2.1)
  step := S_sp_l2Sets_0
  leaf := fun _ r => .l (.exit 0 (mkSt ({ slots := [3], sh := (.cons (.dat (.slice (.slice (.int .i64)))) .nil), obs := [] }) ((r, ()), ())))
noncomputable def T_sp_l2Sets (a1_ : Int) : Tr (List (List (Int))) :=
  .c (List (List (Int))) (L_sp_l2Sets_0 a1_ (([] : List (List (Int))), (1 : Int))) fun r34_ =>
  .l r34_
noncomputable def F_sp_l2Sets (a1_ : Int) : Option (List (List (Int))) := (T_sp_l2Sets a1_).ev
noncomputable def A_sp_l2Sets : Sh := (.cons (.dat (.int .i64)) .nil)
noncomputable def I_sp_l2Sets : List (Nat × OSh) := []
noncomputable def K_sp_l2Sets : RetK := { acts := [], res := [.tmp 2], sh := (.cons (.dat (.slice (.slice (.int .i64)))) .nil), obs := [], pins := [] }
noncomputable def D_sp_l2Sets : FD where
  A := A_sp_l2Sets
  ins := I_sp_l2Sets
  lend := []
  R := List (List (Int))
  F := fun x => F_sp_l2Sets x.1.1
  emb := fun r => ([.dat (.slice (.slice (.int .i64))) r], [])
noncomputable def E_sp_l2Sets : Env := envOf [(161, D_sp_l2Bits), (162, D_sp_l2Before)]
noncomputable def Z_sp_l2Sets : Nat → Nat → List Nat := fun r i => match look [(8, [(0, [3, 5])])] r with
  | some l => (look l i).getD []
  | none => []
noncomputable def O_sp_l2Sets : List (Nat × LD) := [(2, DL_sp_l2Sets_2), (0, DL_sp_l2Sets_0)]
noncomputable def C_sp_l2Sets : Code := (f114.body).getD .skip
noncomputable def S_sp_l2Site_0 (k : (Int) × ((List (Int)) × ((List (Int)) × (List (List (Int)))))) (v : (Int) × (Int)) : Tr (((Int) × (Int)) ⊕ (Int)) :=
  .t (decide (v.2 < ((List.length k.2.1 : Nat) : Int)))
    (.g (inR k.1 (List.length k.2.2.2)) <|
      .g (inR v.2 (List.length k.2.1)) <|
      .g (inR (List.getD k.2.1 (Int.toNat v.2) (0 : Int)) (List.length (List.getD k.2.2.2 (Int.toNat k.1) ([] : List (Int))))) <|
      .g (inR k.1 (List.length k.2.2.2)) <|
      .g (inR v.1 (List.length (List.getD k.2.2.2 (Int.toNat k.1) ([] : List (Int))))) <|
      .t (decide ((List.getD (List.getD k.2.2.2 (Int.toNat k.1) ([] : List (Int))) (Int.toNat (List.getD k.2.1 (Int.toNat v.2) (0 : Int))) (0 : Int)) < (List.getD (List.getD k.2.2.2 (Int.toNat k.1) ([] : List (Int))) (Int.toNat v.1) (0 : Int))))
        (.g (inR v.2 (List.length k.2.1)) <|
          .l (.inl ((List.getD k.2.1 (Int.toNat v.2) (0 : Int)), (IntKind.wrap .i64 (v.2 + (1 : Int))))))
        (.l (.inl (v.1, (IntKind.wrap .i64 (v.2 + (1 : Int)))))))
    (.l (.inr v.1))
noncomputable def L_sp_l2Site_0 (k : (Int) × ((List (Int)) × ((List (Int)) × (List (List (Int)))))) (v : (Int) × (Int)) : Option (Int) := iter (fun v => (S_sp_l2Site_0 k v).ev) v
noncomputable def DL_sp_l2Site_0 : LD where
  head := { acts := [], S := { slots := [1, 2, 3, 7, 8], sh := (.cons (.dat (.int .i64)) (.cons (.dat (.slice (.int .i64))) (.cons (.box 3 0) (.cons (.dat (.int .i64)) (.cons (.dat (.int .i64)) .nil))))), obs := [(3, .cells (.cons (.dat (.slice (.int .i64))) (.cons (.dat (.slice (.slice (.int .i64)))) .nil)))] } }
  exits := [(0, { acts := [], S := { slots := [7], sh := (.cons (.dat (.int .i64)) .nil), obs := [] } })]
  rets := { acts := [], S := { slots := [], sh := .nil, obs := [] } }
  K := (Int) × ((List (Int)) × ((List (Int)) × (List (List (Int)))))
  V := (Int) × (Int)
  R := Int
  join := fun k v => ((k.1, (k.2.1, ((), (v.1, (v.2, ()))))), ((k.2.2.1, (k.2.2.2, ())), ()))
  sk := fun t => (t.1.1, (t.1.2.1, (t.2.1.1, t.2.1.2.1)))
  sv := fun t => (t.1.2.2.2.1, t.1.2.2.2.2.1)
  step := S_sp_l2Site_0
  leaf := fun _ r => .l (.exit 0 (mkSt ({ slots := [7], sh := (.cons (.dat (.int .i64)) .nil), obs := [] }) ((r, ()), ())))
noncomputable def T_sp_l2Site (a1_ : List (Int)) (a2_ : List (List (Int))) (a3_ : Int) (a4_ : List (Int)) : Tr (Int) :=
  .g (inR (0 : Int) (List.length a4_)) <|
  .c (Int) (L_sp_l2Site_0 (a3_, (a4_, (a1_, a2_))) ((List.getD a4_ (Int.toNat (0 : Int)) (0 : Int)), (1 : Int))) fun r8_ =>
  .l r8_
noncomputable def F_sp_l2Site (a1_ : List (Int)) (a2_ : List (List (Int))) (a3_ : Int) (a4_ : List (Int)) : Option (Int) := (T_sp_l2Site a1_ a2_ a3_ a4_).ev
noncomputable def A_sp_l2Site : Sh := (.cons (.agg (.cons (.dat (.slice (.int .i64))) (.cons (.dat (.slice (.slice (.int .i64)))) .nil))) (.cons (.dat (.int .i64)) (.cons (.dat (.slice (.int .i64))) .nil)))
noncomputable def I_sp_l2Site : List (Nat × OSh) := []
noncomputable def K_sp_l2Site : RetK := { acts := [], res := [.tmp 6], sh := (.cons (.dat (.int .i64)) .nil), obs := [], pins := [] }
noncomputable def D_sp_l2Site : FD where
  A := A_sp_l2Site
  ins := I_sp_l2Site
  lend := []
  R := Int
  F := fun x => F_sp_l2Site x.1.1.1 x.1.1.2.1 x.1.2.1 x.1.2.2.1
  emb := fun r => ([.dat (.int .i64) r], [])
noncomputable def E_sp_l2Site : Env := envOf []
noncomputable def Z_sp_l2Site : Nat → Nat → List Nat := fun _ _ => []
noncomputable def O_sp_l2Site : List (Nat × LD) := [(0, DL_sp_l2Site_0)]
noncomputable def C_sp_l2Site : Code := (f129.body).getD .skip
noncomputable def T_sp_l2Nearest (a1_ : List (Int)) (a2_ : List (List (Int))) (a3_ : Int) (a4_ : List (Int)) : Tr (Int) :=
  .g (inR a3_ (List.length a2_)) <|
  .c (Int) (F_sp_l2Site a1_ a2_ a3_ a4_) fun r1_ =>
  .g (inR r1_ (List.length (List.getD a2_ (Int.toNat a3_) ([] : List (Int))))) <|
  .l (List.getD (List.getD a2_ (Int.toNat a3_) ([] : List (Int))) (Int.toNat r1_) (0 : Int))
noncomputable def F_sp_l2Nearest (a1_ : List (Int)) (a2_ : List (List (Int))) (a3_ : Int) (a4_ : List (Int)) : Option (Int) := (T_sp_l2Nearest a1_ a2_ a3_ a4_).ev
noncomputable def A_sp_l2Nearest : Sh := (.cons (.agg (.cons (.dat (.slice (.int .i64))) (.cons (.dat (.slice (.slice (.int .i64)))) .nil))) (.cons (.dat (.int .i64)) (.cons (.dat (.slice (.int .i64))) .nil)))
noncomputable def I_sp_l2Nearest : List (Nat × OSh) := []
noncomputable def K_sp_l2Nearest : RetK := { acts := [], res := [.tmp 6], sh := (.cons (.dat (.int .i64)) .nil), obs := [], pins := [] }
noncomputable def D_sp_l2Nearest : FD where
  A := A_sp_l2Nearest
  ins := I_sp_l2Nearest
  lend := []
  R := Int
  F := fun x => F_sp_l2Nearest x.1.1.1 x.1.1.2.1 x.1.2.1 x.1.2.2.1
  emb := fun r => ([.dat (.int .i64) r], [])
noncomputable def E_sp_l2Nearest : Env := envOf [(129, D_sp_l2Site)]
noncomputable def Z_sp_l2Nearest : Nat → Nat → List Nat := fun _ _ => []
noncomputable def O_sp_l2Nearest : List (Nat × LD) := []
noncomputable def C_sp_l2Nearest : Code := (f153.body).getD .skip
noncomputable def S_sp_l2Serve_0 (k : (List (Int)) × ((List (Int)) × (List (List (Int))))) (v : (Int) × (Int)) : Tr (((Int) × (Int)) ⊕ (Int)) :=
  .t (decide (v.2 < ((List.length k.2.2 : Nat) : Int)))
    (.c (Int) (F_sp_l2Nearest k.2.1 k.2.2 v.2 k.1) fun r6_ =>
      .l (.inl ((IntKind.wrap .i64 (v.1 + r6_)), (IntKind.wrap .i64 (v.2 + (1 : Int))))))
    (.l (.inr v.1))
noncomputable def L_sp_l2Serve_0 (k : (List (Int)) × ((List (Int)) × (List (List (Int))))) (v : (Int) × (Int)) : Option (Int) := iter (fun v => (S_sp_l2Serve_0 k v).ev) v
noncomputable def DL_sp_l2Serve_0 : LD where
  head := { acts := [], S := { slots := [1, 2, 5, 6], sh := (.cons (.dat (.slice (.int .i64))) (.cons (.box 2 0) (.cons (.dat (.int .i64)) (.cons (.dat (.int .i64)) .nil)))), obs := [(2, .cells (.cons (.dat (.slice (.int .i64))) (.cons (.dat (.slice (.slice (.int .i64)))) .nil)))] } }
  exits := [(0, { acts := [], S := { slots := [5], sh := (.cons (.dat (.int .i64)) .nil), obs := [] } })]
  rets := { acts := [], S := { slots := [], sh := .nil, obs := [] } }
  K := (List (Int)) × ((List (Int)) × (List (List (Int))))
  V := (Int) × (Int)
  R := Int
  join := fun k v => ((k.1, ((), (v.1, (v.2, ())))), ((k.2.1, (k.2.2, ())), ()))
  sk := fun t => (t.1.1, (t.2.1.1, t.2.1.2.1))
  sv := fun t => (t.1.2.2.1, t.1.2.2.2.1)
  step := S_sp_l2Serve_0
  leaf := fun _ r => .l (.exit 0 (mkSt ({ slots := [5], sh := (.cons (.dat (.int .i64)) .nil), obs := [] }) ((r, ()), ())))
noncomputable def T_sp_l2Serve (a1_ : List (Int)) (a2_ : List (List (Int))) (a3_ : List (Int)) : Tr (Int) :=
  .c (Int) (L_sp_l2Serve_0 (a3_, (a1_, a2_)) ((0 : Int), (0 : Int))) fun r8_ =>
  .l r8_
noncomputable def F_sp_l2Serve (a1_ : List (Int)) (a2_ : List (List (Int))) (a3_ : List (Int)) : Option (Int) := (T_sp_l2Serve a1_ a2_ a3_).ev
noncomputable def A_sp_l2Serve : Sh := (.cons (.agg (.cons (.dat (.slice (.int .i64))) (.cons (.dat (.slice (.slice (.int .i64)))) .nil))) (.cons (.dat (.slice (.int .i64))) .nil))
noncomputable def I_sp_l2Serve : List (Nat × OSh) := []
noncomputable def K_sp_l2Serve : RetK := { acts := [], res := [.tmp 4], sh := (.cons (.dat (.int .i64)) .nil), obs := [], pins := [] }
noncomputable def D_sp_l2Serve : FD where
  A := A_sp_l2Serve
  ins := I_sp_l2Serve
  lend := []
  R := Int
  F := fun x => F_sp_l2Serve x.1.1.1 x.1.1.2.1 x.1.2.1
  emb := fun r => ([.dat (.int .i64) r], [])
noncomputable def E_sp_l2Serve : Env := envOf [(153, D_sp_l2Nearest)]
noncomputable def Z_sp_l2Serve : Nat → Nat → List Nat := fun _ _ => []
noncomputable def O_sp_l2Serve : List (Nat × LD) := [(0, DL_sp_l2Serve_0)]
noncomputable def C_sp_l2Serve : Code := (f103.body).getD .skip
noncomputable def S_sp_l2Pay_0 (k : (List (Int)) × ((List (Int)) × (List (List (Int))))) (v : (Int) × (Int)) : Tr (((Int) × (Int)) ⊕ (Int)) :=
  .t (decide (v.2 < ((List.length k.1 : Nat) : Int)))
    (.g (inR v.2 (List.length k.1)) <|
      .g (inR (List.getD k.1 (Int.toNat v.2) (0 : Int)) (List.length k.2.1)) <|
      .l (.inl ((IntKind.wrap .i64 (v.1 + (List.getD k.2.1 (Int.toNat (List.getD k.1 (Int.toNat v.2) (0 : Int))) (0 : Int)))), (IntKind.wrap .i64 (v.2 + (1 : Int))))))
    (.l (.inr v.1))
noncomputable def L_sp_l2Pay_0 (k : (List (Int)) × ((List (Int)) × (List (List (Int))))) (v : (Int) × (Int)) : Option (Int) := iter (fun v => (S_sp_l2Pay_0 k v).ev) v
noncomputable def DL_sp_l2Pay_0 : LD where
  head := { acts := [], S := { slots := [1, 2, 5, 6], sh := (.cons (.dat (.slice (.int .i64))) (.cons (.box 2 0) (.cons (.dat (.int .i64)) (.cons (.dat (.int .i64)) .nil)))), obs := [(2, .cells (.cons (.dat (.slice (.int .i64))) (.cons (.dat (.slice (.slice (.int .i64)))) .nil)))] } }
  exits := [(0, { acts := [], S := { slots := [5], sh := (.cons (.dat (.int .i64)) .nil), obs := [] } })]
  rets := { acts := [], S := { slots := [], sh := .nil, obs := [] } }
  K := (List (Int)) × ((List (Int)) × (List (List (Int))))
  V := (Int) × (Int)
  R := Int
  join := fun k v => ((k.1, ((), (v.1, (v.2, ())))), ((k.2.1, (k.2.2, ())), ()))
  sk := fun t => (t.1.1, (t.2.1.1, t.2.1.2.1))
  sv := fun t => (t.1.2.2.1, t.1.2.2.2.1)
  step := S_sp_l2Pay_0
  leaf := fun _ r => .l (.exit 0 (mkSt ({ slots := [5], sh := (.cons (.dat (.int .i64)) .nil), obs := [] }) ((r, ()), ())))
noncomputable def T_sp_l2Pay (a1_ : List (Int)) (a2_ : List (List (Int))) (a3_ : List (Int)) : Tr (Int) :=
  .c (Int) (L_sp_l2Pay_0 (a3_, (a1_, a2_)) ((0 : Int), (0 : Int))) fun r7_ =>
  .l r7_
noncomputable def F_sp_l2Pay (a1_ : List (Int)) (a2_ : List (List (Int))) (a3_ : List (Int)) : Option (Int) := (T_sp_l2Pay a1_ a2_ a3_).ev
noncomputable def A_sp_l2Pay : Sh := (.cons (.agg (.cons (.dat (.slice (.int .i64))) (.cons (.dat (.slice (.slice (.int .i64)))) .nil))) (.cons (.dat (.slice (.int .i64))) .nil))
noncomputable def I_sp_l2Pay : List (Nat × OSh) := []
noncomputable def K_sp_l2Pay : RetK := { acts := [], res := [.tmp 4], sh := (.cons (.dat (.int .i64)) .nil), obs := [], pins := [] }
noncomputable def D_sp_l2Pay : FD where
  A := A_sp_l2Pay
  ins := I_sp_l2Pay
  lend := []
  R := Int
  F := fun x => F_sp_l2Pay x.1.1.1 x.1.1.2.1 x.1.2.1
  emb := fun r => ([.dat (.int .i64) r], [])
noncomputable def E_sp_l2Pay : Env := envOf []
noncomputable def Z_sp_l2Pay : Nat → Nat → List Nat := fun _ _ => []
noncomputable def O_sp_l2Pay : List (Nat × LD) := [(0, DL_sp_l2Pay_0)]
noncomputable def C_sp_l2Pay : Code := (f163.body).getD .skip
noncomputable def T_sp_l2Total (a1_ : List (Int)) (a2_ : List (List (Int))) (a3_ : List (Int)) : Tr (Int) :=
  .c (Int) (F_sp_l2Serve a1_ a2_ a3_) fun r1_ =>
  .c (Int) (F_sp_l2Pay a1_ a2_ a3_) fun r2_ =>
  .l (IntKind.wrap .i64 (r1_ + r2_))
noncomputable def F_sp_l2Total (a1_ : List (Int)) (a2_ : List (List (Int))) (a3_ : List (Int)) : Option (Int) := (T_sp_l2Total a1_ a2_ a3_).ev
noncomputable def A_sp_l2Total : Sh := (.cons (.agg (.cons (.dat (.slice (.int .i64))) (.cons (.dat (.slice (.slice (.int .i64)))) .nil))) (.cons (.dat (.slice (.int .i64))) .nil))
noncomputable def I_sp_l2Total : List (Nat × OSh) := []
noncomputable def K_sp_l2Total : RetK := { acts := [], res := [.tmp 4], sh := (.cons (.dat (.int .i64)) .nil), obs := [], pins := [] }
noncomputable def D_sp_l2Total : FD where
  A := A_sp_l2Total
  ins := I_sp_l2Total
  lend := []
  R := Int
  F := fun x => F_sp_l2Total x.1.1.1 x.1.1.2.1 x.1.2.1
  emb := fun r => ([.dat (.int .i64) r], [])
noncomputable def E_sp_l2Total : Env := envOf [(103, D_sp_l2Serve), (163, D_sp_l2Pay)]
noncomputable def Z_sp_l2Total : Nat → Nat → List Nat := fun _ _ => []
noncomputable def O_sp_l2Total : List (Nat × LD) := []
noncomputable def C_sp_l2Total : Code := (f164.body).getD .skip
noncomputable def T_sp_l1Most (a1_ : Int) (a2_ : Int) : Tr (Int) :=
  .t (decide (a2_ < a1_))
    (.l a1_)
    (.l a2_)
noncomputable def F_sp_l1Most (a1_ : Int) (a2_ : Int) : Option (Int) := (T_sp_l1Most a1_ a2_).ev
noncomputable def A_sp_l1Most : Sh := (.cons (.dat (.int .i64)) (.cons (.dat (.int .i64)) .nil))
noncomputable def I_sp_l1Most : List (Nat × OSh) := []
noncomputable def K_sp_l1Most : RetK := { acts := [], res := [.tmp 4], sh := (.cons (.dat (.int .i64)) .nil), obs := [], pins := [] }
noncomputable def D_sp_l1Most : FD where
  A := A_sp_l1Most
  ins := I_sp_l1Most
  lend := []
  R := Int
  F := fun x => F_sp_l1Most x.1.1 x.1.2.1
  emb := fun r => ([.dat (.int .i64) r], [])
noncomputable def E_sp_l1Most : Env := envOf []
noncomputable def Z_sp_l1Most : Nat → Nat → List Nat := fun _ _ => []
noncomputable def O_sp_l1Most : List (Nat × LD) := []
noncomputable def C_sp_l1Most : Code := (f186.body).getD .skip
noncomputable def S_sp_l2Far_0 (k : (List (Int)) × ((List (Int)) × (List (List (Int))))) (v : (Int) × (Int)) : Tr (((Int) × (Int)) ⊕ (Int)) :=
  .t (decide (v.2 < ((List.length k.2.2 : Nat) : Int)))
    (.c (Int) (F_sp_l2Nearest k.2.1 k.2.2 v.2 k.1) fun r6_ =>
      .c (Int) (F_sp_l1Most v.1 r6_) fun r7_ =>
      .l (.inl (r7_, (IntKind.wrap .i64 (v.2 + (1 : Int))))))
    (.l (.inr v.1))
noncomputable def L_sp_l2Far_0 (k : (List (Int)) × ((List (Int)) × (List (List (Int))))) (v : (Int) × (Int)) : Option (Int) := iter (fun v => (S_sp_l2Far_0 k v).ev) v
noncomputable def DL_sp_l2Far_0 : LD where
  head := { acts := [], S := { slots := [1, 2, 5, 6], sh := (.cons (.dat (.slice (.int .i64))) (.cons (.box 2 0) (.cons (.dat (.int .i64)) (.cons (.dat (.int .i64)) .nil)))), obs := [(2, .cells (.cons (.dat (.slice (.int .i64))) (.cons (.dat (.slice (.slice (.int .i64)))) .nil)))] } }
  exits := [(0, { acts := [], S := { slots := [5], sh := (.cons (.dat (.int .i64)) .nil), obs := [] } })]
  rets := { acts := [], S := { slots := [], sh := .nil, obs := [] } }
  K := (List (Int)) × ((List (Int)) × (List (List (Int))))
  V := (Int) × (Int)
  R := Int
  join := fun k v => ((k.1, ((), (v.1, (v.2, ())))), ((k.2.1, (k.2.2, ())), ()))
  sk := fun t => (t.1.1, (t.2.1.1, t.2.1.2.1))
  sv := fun t => (t.1.2.2.1, t.1.2.2.2.1)
  step := S_sp_l2Far_0
  leaf := fun _ r => .l (.exit 0 (mkSt ({ slots := [5], sh := (.cons (.dat (.int .i64)) .nil), obs := [] }) ((r, ()), ())))
noncomputable def T_sp_l2Far (a1_ : List (Int)) (a2_ : List (List (Int))) (a3_ : List (Int)) : Tr (Int) :=
  .c (Int) (L_sp_l2Far_0 (a3_, (a1_, a2_)) ((0 : Int), (0 : Int))) fun r9_ =>
  .l r9_
noncomputable def F_sp_l2Far (a1_ : List (Int)) (a2_ : List (List (Int))) (a3_ : List (Int)) : Option (Int) := (T_sp_l2Far a1_ a2_ a3_).ev
noncomputable def A_sp_l2Far : Sh := (.cons (.agg (.cons (.dat (.slice (.int .i64))) (.cons (.dat (.slice (.slice (.int .i64)))) .nil))) (.cons (.dat (.slice (.int .i64))) .nil))
noncomputable def I_sp_l2Far : List (Nat × OSh) := []
noncomputable def K_sp_l2Far : RetK := { acts := [], res := [.tmp 4], sh := (.cons (.dat (.int .i64)) .nil), obs := [], pins := [] }
noncomputable def D_sp_l2Far : FD where
  A := A_sp_l2Far
  ins := I_sp_l2Far
  lend := []
  R := Int
  F := fun x => F_sp_l2Far x.1.1.1 x.1.1.2.1 x.1.2.1
  emb := fun r => ([.dat (.int .i64) r], [])
noncomputable def E_sp_l2Far : Env := envOf [(153, D_sp_l2Nearest), (186, D_sp_l1Most)]
noncomputable def Z_sp_l2Far : Nat → Nat → List Nat := fun _ _ => []
noncomputable def O_sp_l2Far : List (Nat × LD) := [(0, DL_sp_l2Far_0)]
noncomputable def C_sp_l2Far : Code := (f165.body).getD .skip
noncomputable def T_sp_l11Value (a1_ : List (Int)) (a2_ : List (List (Int))) (a3_ : List (Int)) (a4_ : Int) : Tr (Int) :=
  .t (a4_ == (1 : Int))
    (.c (Int) (F_sp_l2Serve a1_ a2_ a3_) fun r1_ =>
      .l r1_)
    (.t (a4_ == (2 : Int))
        (.c (Int) (F_sp_l2Pay a1_ a2_ a3_) fun r2_ =>
          .l r2_)
        (.t (a4_ == (3 : Int))
            (.c (Int) (F_sp_l2Total a1_ a2_ a3_) fun r3_ =>
              .l r3_)
            (.t (a4_ == (4 : Int))
                (.c (Int) (F_sp_l2Far a1_ a2_ a3_) fun r4_ =>
                  .l r4_)
                (.l ((List.length a3_ : Nat) : Int)))))
noncomputable def F_sp_l11Value (a1_ : List (Int)) (a2_ : List (List (Int))) (a3_ : List (Int)) (a4_ : Int) : Option (Int) := (T_sp_l11Value a1_ a2_ a3_ a4_).ev
noncomputable def A_sp_l11Value : Sh := (.cons (.agg (.cons (.dat (.slice (.int .i64))) (.cons (.dat (.slice (.slice (.int .i64)))) .nil))) (.cons (.dat (.slice (.int .i64))) (.cons (.dat (.int .i64)) .nil)))
noncomputable def I_sp_l11Value : List (Nat × OSh) := []
noncomputable def K_sp_l11Value : RetK := { acts := [], res := [.tmp 6], sh := (.cons (.dat (.int .i64)) .nil), obs := [], pins := [] }
noncomputable def D_sp_l11Value : FD where
  A := A_sp_l11Value
  ins := I_sp_l11Value
  lend := []
  R := Int
  F := fun x => F_sp_l11Value x.1.1.1 x.1.1.2.1 x.1.2.1 x.1.2.2.1
  emb := fun r => ([.dat (.int .i64) r], [])
noncomputable def E_sp_l11Value : Env := envOf [(103, D_sp_l2Serve), (163, D_sp_l2Pay), (164, D_sp_l2Total), (165, D_sp_l2Far)]
noncomputable def Z_sp_l11Value : Nat → Nat → List Nat := fun _ _ => []
noncomputable def O_sp_l11Value : List (Nat × LD) := []
noncomputable def C_sp_l11Value : Code := (f115.body).getD .skip
noncomputable def S_sp_BestUnder_0 (k : (Int) × ((Int) × ((Int) × ((List (List (Int))) × ((List (Int)) × (List (List (Int)))))))) (v : (List (Int)) × (Int)) : Tr (((List (Int)) × (Int)) ⊕ (List (Int))) :=
  .t (decide (v.2 < ((List.length k.2.2.2.1 : Nat) : Int)))
    (.g (inR v.2 (List.length k.2.2.2.1)) <|
      .c (Int) (F_sp_l11Value k.2.2.2.2.1 k.2.2.2.2.2 (List.getD k.2.2.2.1 (Int.toNat v.2) ([] : List (Int))) k.2.1) fun r22_ =>
      .t (decide (r22_ ≤ k.2.2.1))
        (.t (((List.length v.1 : Nat) : Int) == (0 : Int))
            (.g (inR v.2 (List.length k.2.2.2.1)) <|
              .l (.inl ((List.getD k.2.2.2.1 (Int.toNat v.2) ([] : List (Int))), (IntKind.wrap .i64 (v.2 + (1 : Int))))))
            (.g (inR v.2 (List.length k.2.2.2.1)) <|
              .c (Int) (F_sp_l11Value k.2.2.2.2.1 k.2.2.2.2.2 (List.getD k.2.2.2.1 (Int.toNat v.2) ([] : List (Int))) k.1) fun r23_ =>
              .c (Int) (F_sp_l11Value k.2.2.2.2.1 k.2.2.2.2.2 v.1 k.1) fun r24_ =>
              .t (decide (r23_ < r24_))
                (.g (inR v.2 (List.length k.2.2.2.1)) <|
                  .l (.inl ((List.getD k.2.2.2.1 (Int.toNat v.2) ([] : List (Int))), (IntKind.wrap .i64 (v.2 + (1 : Int))))))
                (.l (.inl (v.1, (IntKind.wrap .i64 (v.2 + (1 : Int))))))))
        (.l (.inl (v.1, (IntKind.wrap .i64 (v.2 + (1 : Int)))))))
    (.l (.inr v.1))
noncomputable def L_sp_BestUnder_0 (k : (Int) × ((Int) × ((Int) × ((List (List (Int))) × ((List (Int)) × (List (List (Int)))))))) (v : (List (Int)) × (Int)) : Option (List (Int)) := iter (fun v => (S_sp_BestUnder_0 k v).ev) v
noncomputable def DL_sp_BestUnder_0 : LD where
  head := { acts := [.fz 13], S := { slots := [1, 2, 3, 4, 10, 11, 12], sh := (.cons (.dat (.int .i64)) (.cons (.dat (.int .i64)) (.cons (.dat (.int .i64)) (.cons (.box 4 0) (.cons (.dat (.slice (.int .i64))) (.cons (.dat (.slice (.slice (.int .i64)))) (.cons (.dat (.int .i64)) .nil))))))), obs := [(4, .cells (.cons (.dat (.slice (.int .i64))) (.cons (.dat (.slice (.slice (.int .i64)))) .nil)))] } }
  exits := [(0, { acts := [], S := { slots := [10], sh := (.cons (.dat (.slice (.int .i64))) .nil), obs := [] } })]
  rets := { acts := [], S := { slots := [], sh := .nil, obs := [] } }
  K := (Int) × ((Int) × ((Int) × ((List (List (Int))) × ((List (Int)) × (List (List (Int)))))))
  V := (List (Int)) × (Int)
  R := List (Int)
  join := fun k v => ((k.1, (k.2.1, (k.2.2.1, ((), (v.1, (k.2.2.2.1, (v.2, ()))))))), ((k.2.2.2.2.1, (k.2.2.2.2.2, ())), ()))
  sk := fun t => (t.1.1, (t.1.2.1, (t.1.2.2.1, (t.1.2.2.2.2.2.1, (t.2.1.1, t.2.1.2.1)))))
  sv := fun t => (t.1.2.2.2.2.1, t.1.2.2.2.2.2.2.1)
  step := S_sp_BestUnder_0
  leaf := fun _ r => .l (.exit 0 (mkSt ({ slots := [10], sh := (.cons (.dat (.slice (.int .i64))) .nil), obs := [] }) ((r, ()), ())))
noncomputable def T_sp_BestUnder (a1_ : List (Int)) (a2_ : List (List (Int))) (a3_ : Int) (a4_ : Int) (a5_ : Int) : Tr ((List (Int)) × (Bool)) :=
  .c (Bool) (F_sp_l11Two a1_ a2_ a3_ a4_) fun r1_ =>
  .t (!r1_)
    (.l (([] : List (Int)), false))
    (.c (List (List (Int))) (F_sp_l2Sets ((List.length a1_ : Nat) : Int)) fun r2_ =>
      .c (List (Int)) (L_sp_BestUnder_0 (a3_, (a4_, (a5_, (r2_, (a1_, a2_))))) (([] : List (Int)), (0 : Int))) fun r26_ =>
      .l (r26_, (decide ((0 : Int) < ((List.length r26_ : Nat) : Int)))))
noncomputable def F_sp_BestUnder (a1_ : List (Int)) (a2_ : List (List (Int))) (a3_ : Int) (a4_ : Int) (a5_ : Int) : Option ((List (Int)) × (Bool)) := (T_sp_BestUnder a1_ a2_ a3_ a4_ a5_).ev
noncomputable def A_sp_BestUnder : Sh := (.cons (.agg (.cons (.dat (.slice (.int .i64))) (.cons (.dat (.slice (.slice (.int .i64)))) .nil))) (.cons (.dat (.int .i64)) (.cons (.dat (.int .i64)) (.cons (.dat (.int .i64)) .nil))))
noncomputable def I_sp_BestUnder : List (Nat × OSh) := []
noncomputable def K_sp_BestUnder : RetK := { acts := [.fz 13], res := [.tmp 8, .tmp 9], sh := (.cons (.dat (.slice (.int .i64))) (.cons (.dat .bool) .nil)), obs := [], pins := [] }
noncomputable def D_sp_BestUnder : FD where
  A := A_sp_BestUnder
  ins := I_sp_BestUnder
  lend := []
  R := (List (Int)) × (Bool)
  F := fun x => F_sp_BestUnder x.1.1.1 x.1.1.2.1 x.1.2.1 x.1.2.2.1 x.1.2.2.2.1
  emb := fun r => ([.dat (.slice (.int .i64)) r.1, .dat .bool r.2], [])
noncomputable def E_sp_BestUnder : Env := envOf [(113, D_sp_l11Two), (114, D_sp_l2Sets), (115, D_sp_l11Value)]
noncomputable def Z_sp_BestUnder : Nat → Nat → List Nat := fun _ _ => []
noncomputable def O_sp_BestUnder : List (Nat × LD) := [(0, DL_sp_BestUnder_0)]
noncomputable def C_sp_BestUnder : Code := (f44.body).getD .skip
noncomputable def T_im_between (a1_ : Int) (a2_ : Int) (a3_ : Int) : Tr (Bool) :=
  .t (decide (a2_ ≤ a1_))
    (.l (decide (a1_ ≤ a3_)))
    (.l false)
noncomputable def F_im_between (a1_ : Int) (a2_ : Int) (a3_ : Int) : Option (Bool) := (T_im_between a1_ a2_ a3_).ev
noncomputable def A_im_between : Sh := (.cons (.dat (.int .i64)) (.cons (.dat (.int .i64)) (.cons (.dat (.int .i64)) .nil)))
noncomputable def I_im_between : List (Nat × OSh) := []
noncomputable def K_im_between : RetK := { acts := [], res := [.tmp 6], sh := (.cons (.dat .bool) .nil), obs := [], pins := [] }
noncomputable def D_im_between : FD where
  A := A_im_between
  ins := I_im_between
  lend := []
  R := Bool
  F := fun x => F_im_between x.1.1 x.1.2.1 x.1.2.2.1
  emb := fun r => ([.dat .bool r], [])
noncomputable def E_im_between : Env := envOf []
noncomputable def Z_im_between : Nat → Nat → List Nat := fun _ _ => []
noncomputable def O_im_between : List (Nat × LD) := []
noncomputable def C_im_between : Code := (f136.body).getD .skip
noncomputable def S_slices_IndexFunc_Sint_int_0 (k : (List (Int)) × (((HL [(.int .i64)] → Option (Bool))) × (Int))) (v : Int) : Tr ((Int) ⊕ ((Unit) ⊕ (Int))) :=
  .t (decide (v < k.2.2))
    (.g (inR v (List.length k.1)) <|
      .c (Bool) (k.2.1 ((List.getD k.1 (Int.toNat v) (0 : Int)), ())) fun r5_ =>
      .t r5_
        (.l (.inr (.inr v)))
        (.l (.inl (IntKind.wrap .i64 (v + (1 : Int))))))
    (.l (.inr (.inl ())))
noncomputable def L_slices_IndexFunc_Sint_int_0 (k : (List (Int)) × (((HL [(.int .i64)] → Option (Bool))) × (Int))) (v : Int) : Option ((Unit) ⊕ (Int)) := iter (fun v => (S_slices_IndexFunc_Sint_int_0 k v).ev) v
noncomputable def DL_slices_IndexFunc_Sint_int_0 : LD where
  head := { acts := [], S := { slots := [0, 1, 7, 8], sh := (.cons (.dat (.slice (.int .i64))) (.cons (.clo [(.int .i64)] .bool) (.cons (.dat (.int .i64)) (.cons (.dat (.int .i64)) .nil)))), obs := [] } }
  exits := [(0, { acts := [], S := { slots := [], sh := .nil, obs := [] } })]
  rets := { acts := [], S := { slots := [4], sh := (.cons (.dat (.int .i64)) .nil), obs := [] } }
  K := (List (Int)) × (((HL [(.int .i64)] → Option (Bool))) × (Int))
  V := Int
  R := (Unit) ⊕ (Int)
  join := fun k v => ((k.1, (k.2.1, (k.2.2, (v, ())))), ())
  sk := fun t => (t.1.1, (t.1.2.1, t.1.2.2.1))
  sv := fun t => t.1.2.2.2.1
  step := S_slices_IndexFunc_Sint_int_0
  leaf := fun _ r => .s (Unit) (Int) r (fun _ => .l (.exit 0 (mkSt ({ slots := [], sh := .nil, obs := [] }) ((), ())))) (fun b => .l (.ret (mkSt ({ slots := [4], sh := (.cons (.dat (.int .i64)) .nil), obs := [] }) ((b, ()), ()))))
noncomputable def T_slices_IndexFunc_Sint_int (a1_ : List (Int)) (a2_ : (HL [(.int .i64)] → Option (Bool))) : Tr (Int) :=
  .c ((Unit) ⊕ (Int)) (L_slices_IndexFunc_Sint_int_0 (a1_, (a2_, ((List.length a1_ : Nat) : Int))) (0 : Int)) fun r7_ =>
  .s (Unit) (Int) r7_
    (fun _ => .l (-1 : Int))
    (fun r9_ => .l r9_)
noncomputable def F_slices_IndexFunc_Sint_int (a1_ : List (Int)) (a2_ : (HL [(.int .i64)] → Option (Bool))) : Option (Int) := (T_slices_IndexFunc_Sint_int a1_ a2_).ev
noncomputable def A_slices_IndexFunc_Sint_int : Sh := (.cons (.dat (.slice (.int .i64))) (.cons (.clo [(.int .i64)] .bool) .nil))
noncomputable def I_slices_IndexFunc_Sint_int : List (Nat × OSh) := []
noncomputable def K_slices_IndexFunc_Sint_int : RetK := { acts := [], res := [.tmp 4], sh := (.cons (.dat (.int .i64)) .nil), obs := [], pins := [] }
noncomputable def D_slices_IndexFunc_Sint_int : FD where
  A := A_slices_IndexFunc_Sint_int
  ins := I_slices_IndexFunc_Sint_int
  lend := []
  R := Int
  F := fun x => F_slices_IndexFunc_Sint_int x.1.1 x.1.2.1
  emb := fun r => ([.dat (.int .i64) r], [])
noncomputable def E_slices_IndexFunc_Sint_int : Env := envOf []
noncomputable def Z_slices_IndexFunc_Sint_int : Nat → Nat → List Nat := fun _ _ => []
noncomputable def O_slices_IndexFunc_Sint_int : List (Nat × LD) := [(0, DL_slices_IndexFunc_Sint_int_0)]
noncomputable def C_slices_IndexFunc_Sint_int : Code := (f193.body).getD .skip
noncomputable def T_slices_ContainsFunc_Sint_int (a1_ : List (Int)) (a2_ : (HL [(.int .i64)] → Option (Bool))) : Tr (Bool) :=
  .c (Int) (F_slices_IndexFunc_Sint_int a1_ a2_) fun r1_ =>
  .l (decide ((0 : Int) ≤ r1_))
noncomputable def F_slices_ContainsFunc_Sint_int (a1_ : List (Int)) (a2_ : (HL [(.int .i64)] → Option (Bool))) : Option (Bool) := (T_slices_ContainsFunc_Sint_int a1_ a2_).ev
noncomputable def A_slices_ContainsFunc_Sint_int : Sh := (.cons (.dat (.slice (.int .i64))) (.cons (.clo [(.int .i64)] .bool) .nil))
noncomputable def I_slices_ContainsFunc_Sint_int : List (Nat × OSh) := []
noncomputable def K_slices_ContainsFunc_Sint_int : RetK := { acts := [], res := [.tmp 4], sh := (.cons (.dat .bool) .nil), obs := [], pins := [] }
noncomputable def D_slices_ContainsFunc_Sint_int : FD where
  A := A_slices_ContainsFunc_Sint_int
  ins := I_slices_ContainsFunc_Sint_int
  lend := []
  R := Bool
  F := fun x => F_slices_ContainsFunc_Sint_int x.1.1 x.1.2.1
  emb := fun r => ([.dat .bool r], [])
noncomputable def E_slices_ContainsFunc_Sint_int : Env := envOf [(193, D_slices_IndexFunc_Sint_int)]
noncomputable def Z_slices_ContainsFunc_Sint_int : Nat → Nat → List Nat := fun _ _ => []
noncomputable def O_slices_ContainsFunc_Sint_int : List (Nat × LD) := []
noncomputable def C_slices_ContainsFunc_Sint_int : Code := (f177.body).getD .skip
noncomputable def T_im_areBetween_1 (a1_ : Int) (a2_ : Int) (a3_ : Int) : Tr (Bool) :=
  .c (Bool) (F_im_between a1_ a2_ a3_) fun r1_ =>
  .l (!r1_)
noncomputable def F_im_areBetween_1 (a1_ : Int) (a2_ : Int) (a3_ : Int) : Option (Bool) := (T_im_areBetween_1 a1_ a2_ a3_).ev
noncomputable def A_im_areBetween_1 : Sh := (.cons (.dat (.int .i64)) (.cons (.ptr (.cons (.dat (.int .i64)) .nil)) (.cons (.ptr (.cons (.dat (.int .i64)) .nil)) .nil)))
noncomputable def I_im_areBetween_1 : List (Nat × OSh) := []
noncomputable def K_im_areBetween_1 : RetK := { acts := [], res := [.tmp 4], sh := (.cons (.dat .bool) .nil), obs := [], pins := [] }
noncomputable def D_im_areBetween_1 : FD where
  A := A_im_areBetween_1
  ins := I_im_areBetween_1
  lend := []
  R := Bool
  F := fun x => F_im_areBetween_1 x.1.1 x.1.2.1.1 x.1.2.2.1.1
  emb := fun r => ([.dat .bool r], [])
noncomputable def E_im_areBetween_1 : Env := envOf [(136, D_im_between)]
noncomputable def Z_im_areBetween_1 : Nat → Nat → List Nat := fun _ _ => []
noncomputable def O_im_areBetween_1 : List (Nat × LD) := []
noncomputable def C_im_areBetween_1 : Code := (f178.body).getD .skip
noncomputable def T_im_areBetween (a1_ : List (Int)) (a2_ : Int) (a3_ : Int) : Tr (Bool) :=
  .c (Bool) (F_slices_ContainsFunc_Sint_int a1_ (fun h1_ => Option.bind (F_im_areBetween_1 h1_.1 a2_ a3_) fun y2_ => some y2_)) fun r3_ =>
  .l (!r3_)
noncomputable def F_im_areBetween (a1_ : List (Int)) (a2_ : Int) (a3_ : Int) : Option (Bool) := (T_im_areBetween a1_ a2_ a3_).ev
noncomputable def A_im_areBetween : Sh := (.cons (.dat (.slice (.int .i64))) (.cons (.dat (.int .i64)) (.cons (.dat (.int .i64)) .nil)))
noncomputable def I_im_areBetween : List (Nat × OSh) := []
noncomputable def K_im_areBetween : RetK := { acts := [], res := [.tmp 6], sh := (.cons (.dat .bool) .nil), obs := [], pins := [] }
noncomputable def D_im_areBetween : FD where
  A := A_im_areBetween
  ins := I_im_areBetween
  lend := []
  R := Bool
  F := fun x => F_im_areBetween x.1.1 x.1.2.1 x.1.2.2.1
  emb := fun r => ([.dat .bool r], [])
noncomputable def E_im_areBetween : Env := envOf [(177, D_slices_ContainsFunc_Sint_int), (177, D_slices_ContainsFunc_Sint_int), (178, D_im_areBetween_1)]
noncomputable def Z_im_areBetween : Nat → Nat → List Nat := fun _ _ => []
noncomputable def O_im_areBetween : List (Nat × LD) := []
noncomputable def C_im_areBetween : Code := (f137.body).getD .skip
noncomputable def S_slices_IndexFunc_SSint_Sint_0 (k : (List (List (Int))) × (((HL [(.slice (.int .i64))] → Option (Bool))) × (Int))) (v : Int) : Tr ((Int) ⊕ ((Unit) ⊕ (Int))) :=
  .t (decide (v < k.2.2))
    (.g (inR v (List.length k.1)) <|
      .c (Bool) (k.2.1 ((List.getD k.1 (Int.toNat v) ([] : List (Int))), ())) fun r5_ =>
      .t r5_
        (.l (.inr (.inr v)))
        (.l (.inl (IntKind.wrap .i64 (v + (1 : Int))))))
    (.l (.inr (.inl ())))
noncomputable def L_slices_IndexFunc_SSint_Sint_0 (k : (List (List (Int))) × (((HL [(.slice (.int .i64))] → Option (Bool))) × (Int))) (v : Int) : Option ((Unit) ⊕ (Int)) := iter (fun v => (S_slices_IndexFunc_SSint_Sint_0 k v).ev) v
noncomputable def DL_slices_IndexFunc_SSint_Sint_0 : LD where
  head := { acts := [], S := { slots := [0, 1, 7, 8], sh := (.cons (.dat (.slice (.slice (.int .i64)))) (.cons (.clo [(.slice (.int .i64))] .bool) (.cons (.dat (.int .i64)) (.cons (.dat (.int .i64)) .nil)))), obs := [] } }
  exits := [(0, { acts := [], S := { slots := [], sh := .nil, obs := [] } })]
  rets := { acts := [], S := { slots := [4], sh := (.cons (.dat (.int .i64)) .nil), obs := [] } }
  K := (List (List (Int))) × (((HL [(.slice (.int .i64))] → Option (Bool))) × (Int))
  V := Int
  R := (Unit) ⊕ (Int)
  join := fun k v => ((k.1, (k.2.1, (k.2.2, (v, ())))), ())
  sk := fun t => (t.1.1, (t.1.2.1, t.1.2.2.1))
  sv := fun t => t.1.2.2.2.1
  step := S_slices_IndexFunc_SSint_Sint_0
  leaf := fun _ r => .s (Unit) (Int) r (fun _ => .l (.exit 0 (mkSt ({ slots := [], sh := .nil, obs := [] }) ((), ())))) (fun b => .l (.ret (mkSt ({ slots := [4], sh := (.cons (.dat (.int .i64)) .nil), obs := [] }) ((b, ()), ()))))
noncomputable def T_slices_IndexFunc_SSint_Sint (a1_ : List (List (Int))) (a2_ : (HL [(.slice (.int .i64))] → Option (Bool))) : Tr (Int) :=
  .c ((Unit) ⊕ (Int)) (L_slices_IndexFunc_SSint_Sint_0 (a1_, (a2_, ((List.length a1_ : Nat) : Int))) (0 : Int)) fun r7_ =>
  .s (Unit) (Int) r7_
    (fun _ => .l (-1 : Int))
    (fun r9_ => .l r9_)
noncomputable def F_slices_IndexFunc_SSint_Sint (a1_ : List (List (Int))) (a2_ : (HL [(.slice (.int .i64))] → Option (Bool))) : Option (Int) := (T_slices_IndexFunc_SSint_Sint a1_ a2_).ev
noncomputable def A_slices_IndexFunc_SSint_Sint : Sh := (.cons (.dat (.slice (.slice (.int .i64)))) (.cons (.clo [(.slice (.int .i64))] .bool) .nil))
noncomputable def I_slices_IndexFunc_SSint_Sint : List (Nat × OSh) := []
noncomputable def K_slices_IndexFunc_SSint_Sint : RetK := { acts := [], res := [.tmp 4], sh := (.cons (.dat (.int .i64)) .nil), obs := [], pins := [] }
noncomputable def D_slices_IndexFunc_SSint_Sint : FD where
  A := A_slices_IndexFunc_SSint_Sint
  ins := I_slices_IndexFunc_SSint_Sint
  lend := []
  R := Int
  F := fun x => F_slices_IndexFunc_SSint_Sint x.1.1 x.1.2.1
  emb := fun r => ([.dat (.int .i64) r], [])
noncomputable def E_slices_IndexFunc_SSint_Sint : Env := envOf []
noncomputable def Z_slices_IndexFunc_SSint_Sint : Nat → Nat → List Nat := fun _ _ => []
noncomputable def O_slices_IndexFunc_SSint_Sint : List (Nat × LD) := [(0, DL_slices_IndexFunc_SSint_Sint_0)]
noncomputable def C_slices_IndexFunc_SSint_Sint : Code := (f167.body).getD .skip
noncomputable def T_slices_ContainsFunc_SSint_Sint (a1_ : List (List (Int))) (a2_ : (HL [(.slice (.int .i64))] → Option (Bool))) : Tr (Bool) :=
  .c (Int) (F_slices_IndexFunc_SSint_Sint a1_ a2_) fun r1_ =>
  .l (decide ((0 : Int) ≤ r1_))
noncomputable def F_slices_ContainsFunc_SSint_Sint (a1_ : List (List (Int))) (a2_ : (HL [(.slice (.int .i64))] → Option (Bool))) : Option (Bool) := (T_slices_ContainsFunc_SSint_Sint a1_ a2_).ev
noncomputable def A_slices_ContainsFunc_SSint_Sint : Sh := (.cons (.dat (.slice (.slice (.int .i64)))) (.cons (.clo [(.slice (.int .i64))] .bool) .nil))
noncomputable def I_slices_ContainsFunc_SSint_Sint : List (Nat × OSh) := []
noncomputable def K_slices_ContainsFunc_SSint_Sint : RetK := { acts := [], res := [.tmp 4], sh := (.cons (.dat .bool) .nil), obs := [], pins := [] }
noncomputable def D_slices_ContainsFunc_SSint_Sint : FD where
  A := A_slices_ContainsFunc_SSint_Sint
  ins := I_slices_ContainsFunc_SSint_Sint
  lend := []
  R := Bool
  F := fun x => F_slices_ContainsFunc_SSint_Sint x.1.1 x.1.2.1
  emb := fun r => ([.dat .bool r], [])
noncomputable def E_slices_ContainsFunc_SSint_Sint : Env := envOf [(167, D_slices_IndexFunc_SSint_Sint)]
noncomputable def Z_slices_ContainsFunc_SSint_Sint : Nat → Nat → List Nat := fun _ _ => []
noncomputable def O_slices_ContainsFunc_SSint_Sint : List (Nat × LD) := []
noncomputable def C_slices_ContainsFunc_SSint_Sint : Code := (f141.body).getD .skip
noncomputable def T_im_IsField_1 (a1_ : List (Int)) (a2_ : List (Int)) (_a3_ : List (List (Int))) : Tr (Bool) :=
  .t (((List.length a1_ : Nat) : Int) != ((List.length a2_ : Nat) : Int))
    (.l true)
    (.c (Bool) (F_im_areBetween a1_ (0 : Int) (99 : Int)) fun r1_ =>
      .l (!r1_))
noncomputable def F_im_IsField_1 (a1_ : List (Int)) (a2_ : List (Int)) (a3_ : List (List (Int))) : Option (Bool) := (T_im_IsField_1 a1_ a2_ a3_).ev
noncomputable def A_im_IsField_1 : Sh := (.cons (.dat (.slice (.int .i64))) (.cons (.ptr (.cons (.dat (.slice (.int .i64))) (.cons (.dat (.slice (.slice (.int .i64)))) .nil))) .nil))
noncomputable def I_im_IsField_1 : List (Nat × OSh) := []
noncomputable def K_im_IsField_1 : RetK := { acts := [], res := [.tmp 3], sh := (.cons (.dat .bool) .nil), obs := [], pins := [] }
noncomputable def D_im_IsField_1 : FD where
  A := A_im_IsField_1
  ins := I_im_IsField_1
  lend := []
  R := Bool
  F := fun x => F_im_IsField_1 x.1.1 x.1.2.1.1 x.1.2.1.2.1
  emb := fun r => ([.dat .bool r], [])
noncomputable def E_im_IsField_1 : Env := envOf [(137, D_im_areBetween)]
noncomputable def Z_im_IsField_1 : Nat → Nat → List Nat := fun _ _ => []
noncomputable def O_im_IsField_1 : List (Nat × LD) := []
noncomputable def C_im_IsField_1 : Code := (f154.body).getD .skip
noncomputable def T_im_IsField (a1_ : List (Int)) (a2_ : List (List (Int))) : Tr (Bool) :=
  .c (Bool) (F_im_between ((List.length a1_ : Nat) : Int) (1 : Int) (7 : Int)) fun r1_ =>
  .t r1_
    (.c (Bool) (F_im_areBetween a1_ (0 : Int) (99 : Int)) fun r2_ =>
      .t r2_
        (.t (decide (((List.length a2_ : Nat) : Int) ≤ (7 : Int)))
            (.c (Bool) (F_slices_ContainsFunc_SSint_Sint a2_ (fun h3_ => Option.bind (F_im_IsField_1 h3_.1 a1_ a2_) fun y4_ => some y4_)) fun r5_ =>
              .l (!r5_))
            (.l false))
        (.l false))
    (.l false)
noncomputable def F_im_IsField (a1_ : List (Int)) (a2_ : List (List (Int))) : Option (Bool) := (T_im_IsField a1_ a2_).ev
noncomputable def A_im_IsField : Sh := (.cons (.agg (.cons (.dat (.slice (.int .i64))) (.cons (.dat (.slice (.slice (.int .i64)))) .nil))) .nil)
noncomputable def I_im_IsField : List (Nat × OSh) := []
noncomputable def K_im_IsField : RetK := { acts := [], res := [.tmp 2], sh := (.cons (.dat .bool) .nil), obs := [], pins := [] }
noncomputable def D_im_IsField : FD where
  A := A_im_IsField
  ins := I_im_IsField
  lend := []
  R := Bool
  F := fun x => F_im_IsField x.1.1.1 x.1.1.2.1
  emb := fun r => ([.dat .bool r], [])
noncomputable def E_im_IsField : Env := envOf [(136, D_im_between), (137, D_im_areBetween), (141, D_slices_ContainsFunc_SSint_Sint), (141, D_slices_ContainsFunc_SSint_Sint), (154, D_im_IsField_1)]
noncomputable def Z_im_IsField : Nat → Nat → List Nat := fun _ _ => []
noncomputable def O_im_IsField : List (Nat × LD) := []
noncomputable def C_im_IsField : Code := (f106.body).getD .skip
noncomputable def T_im_isObjective (a1_ : Int) : Tr (Bool) :=
  .c (Bool) (F_im_between a1_ (1 : Int) (5 : Int)) fun r1_ =>
  .l r1_
noncomputable def F_im_isObjective (a1_ : Int) : Option (Bool) := (T_im_isObjective a1_).ev
noncomputable def A_im_isObjective : Sh := (.cons (.dat (.int .i64)) .nil)
noncomputable def I_im_isObjective : List (Nat × OSh) := []
noncomputable def K_im_isObjective : RetK := { acts := [], res := [.tmp 2], sh := (.cons (.dat .bool) .nil), obs := [], pins := [] }
noncomputable def D_im_isObjective : FD where
  A := A_im_isObjective
  ins := I_im_isObjective
  lend := []
  R := Bool
  F := fun x => F_im_isObjective x.1.1
  emb := fun r => ([.dat .bool r], [])
noncomputable def E_im_isObjective : Env := envOf [(136, D_im_between)]
noncomputable def Z_im_isObjective : Nat → Nat → List Nat := fun _ _ => []
noncomputable def O_im_isObjective : List (Nat × LD) := []
noncomputable def C_im_isObjective : Code := (f166.body).getD .skip
noncomputable def T_im_isFront (a1_ : List (Int)) (a2_ : List (List (Int))) (a3_ : Int) (a4_ : Int) : Tr (Bool) :=
  .c (Bool) (F_im_IsField a1_ a2_) fun r1_ =>
  .t r1_
    (.c (Bool) (F_im_isObjective a3_) fun r2_ =>
      .t r2_
        (.c (Bool) (F_im_isObjective a4_) fun r3_ =>
          .l r3_)
        (.l false))
    (.l false)
noncomputable def F_im_isFront (a1_ : List (Int)) (a2_ : List (List (Int))) (a3_ : Int) (a4_ : Int) : Option (Bool) := (T_im_isFront a1_ a2_ a3_ a4_).ev
noncomputable def A_im_isFront : Sh := (.cons (.agg (.cons (.dat (.slice (.int .i64))) (.cons (.dat (.slice (.slice (.int .i64)))) .nil))) (.cons (.dat (.int .i64)) (.cons (.dat (.int .i64)) .nil)))
noncomputable def I_im_isFront : List (Nat × OSh) := []
noncomputable def K_im_isFront : RetK := { acts := [], res := [.tmp 6], sh := (.cons (.dat .bool) .nil), obs := [], pins := [] }
noncomputable def D_im_isFront : FD where
  A := A_im_isFront
  ins := I_im_isFront
  lend := []
  R := Bool
  F := fun x => F_im_isFront x.1.1.1 x.1.1.2.1 x.1.2.1 x.1.2.2.1
  emb := fun r => ([.dat .bool r], [])
noncomputable def E_im_isFront : Env := envOf [(106, D_im_IsField), (166, D_im_isObjective)]
noncomputable def Z_im_isFront : Nat → Nat → List Nat := fun _ _ => []
noncomputable def O_im_isFront : List (Nat × LD) := []
noncomputable def C_im_isFront : Code := (f116.body).getD .skip
noncomputable def T_im_bag_has (a1_ : Int) (a2_ : Int) : Tr (Bool) :=
  .g (decide ((0 : Int) ≤ a2_)) <|
  .l ((IntKind.wrap .u64 (BitVec.toNat ((BitVec.ofInt (IntKind.bits .u64) (Int.fdiv a1_ (2 ^ (min (Int.toNat a2_) (IntKind.bits .u64))))) &&& (BitVec.ofInt (IntKind.bits .u64) (1 : Int))))) == (1 : Int))
noncomputable def F_im_bag_has (a1_ : Int) (a2_ : Int) : Option (Bool) := (T_im_bag_has a1_ a2_).ev
noncomputable def A_im_bag_has : Sh := (.cons (.dat (.int .u64)) (.cons (.dat (.int .i64)) .nil))
noncomputable def I_im_bag_has : List (Nat × OSh) := []
noncomputable def K_im_bag_has : RetK := { acts := [], res := [.tmp 4], sh := (.cons (.dat .bool) .nil), obs := [], pins := [] }
noncomputable def D_im_bag_has : FD where
  A := A_im_bag_has
  ins := I_im_bag_has
  lend := []
  R := Bool
  F := fun x => F_im_bag_has x.1.1 x.1.2.1
  emb := fun r => ([.dat .bool r], [])
noncomputable def E_im_bag_has : Env := envOf []
noncomputable def Z_im_bag_has : Nat → Nat → List Nat := fun _ _ => []
noncomputable def O_im_bag_has : List (Nat × LD) := []
noncomputable def C_im_bag_has : Code := (f152.body).getD .skip
noncomputable def S_im_bag_list_0 (k : Int) (v : (Int) × (List (Int))) : Tr (((Int) × (List (Int))) ⊕ (List (Int))) :=
  .g (decide ((0 : Int) ≤ v.1)) <|
  .t (decide ((0 : Int) < (Int.fdiv k (2 ^ (min (Int.toNat v.1) (IntKind.bits .u64))))))
    (.c (Bool) (F_im_bag_has k v.1) fun r4_ =>
      .t r4_
        (.g (decide ((List.length v.2 + List.length ([v.1] : List (Int))) * 8 ≤ 140737488355328)) <|
          .l (.inl ((IntKind.wrap .i64 (v.1 + (1 : Int))), (v.2 ++ ([v.1] : List (Int))))))
        (.l (.inl ((IntKind.wrap .i64 (v.1 + (1 : Int))), v.2))))
    (.l (.inr v.2))
noncomputable def L_im_bag_list_0 (k : Int) (v : (Int) × (List (Int))) : Option (List (Int)) := iter (fun v => (S_im_bag_list_0 k v).ev) v
noncomputable def DL_im_bag_list_0 : LD where
  head := { acts := [], S := { slots := [0, 3, 4], sh := (.cons (.dat (.int .u64)) (.cons (.arr 5) (.cons (.dat (.int .i64)) .nil))), obs := [(5, .arr 3 (.int .i64))] } }
  exits := [(0, { acts := [], S := { slots := [3], sh := (.cons (.arr 5) .nil), obs := [(5, .arr 3 (.int .i64))] } })]
  rets := { acts := [], S := { slots := [], sh := .nil, obs := [] } }
  K := Int
  V := (Int) × (List (Int))
  R := List (Int)
  join := fun k v => ((k, ((), (v.1, ()))), (v.2, ()))
  sk := fun t => t.1.1
  sv := fun t => (t.1.2.2.1, t.2.1)
  step := S_im_bag_list_0
  leaf := fun _ r => .l (.exit 0 (mkSt ({ slots := [3], sh := (.cons (.arr 5) .nil), obs := [(5, .arr 3 (.int .i64))] }) (((), ()), (r, ()))))
noncomputable def T_im_bag_list (a1_ : Int) : Tr (List (Int)) :=
  .c (List (Int)) (L_im_bag_list_0 a1_ ((0 : Int), ([] : List (Int)))) fun r6_ =>
  .l r6_
noncomputable def F_im_bag_list (a1_ : Int) : Option (List (Int)) := (T_im_bag_list a1_).ev
noncomputable def A_im_bag_list : Sh := (.cons (.dat (.int .u64)) .nil)
noncomputable def I_im_bag_list : List (Nat × OSh) := []
noncomputable def K_im_bag_list : RetK := { acts := [.ren 5 0], res := [.tmp 2], sh := (.cons (.arr 0) .nil), obs := [(0, .arr 3 (.int .i64))], pins := [] }
noncomputable def D_im_bag_list : FD where
  A := A_im_bag_list
  ins := I_im_bag_list
  lend := []
  R := List (Int)
  F := fun x => F_im_bag_list x.1.1
  emb := fun r => ([.arr 0], [(0, .arr 3 (.int .i64) r)])
noncomputable def E_im_bag_list : Env := envOf [(152, D_im_bag_has)]
noncomputable def Z_im_bag_list : Nat → Nat → List Nat := fun _ _ => []
noncomputable def O_im_bag_list : List (Nat × LD) := [(0, DL_im_bag_list_0)]
noncomputable def C_im_bag_list : Code := (f144.body).getD .skip
noncomputable def T_math_bits_Len64 (a1_ : Int) : Tr (Int) :=
  .t (decide ((4294967296 : Int) ≤ a1_))
    (.g (decide ((0 : Int) ≤ (32 : Int))) <|
      .t (decide ((65536 : Int) ≤ (Int.fdiv a1_ (2 ^ (min (Int.toNat (32 : Int)) (IntKind.bits .u64))))))
        (.g (decide ((0 : Int) ≤ (16 : Int))) <|
          .t (decide ((256 : Int) ≤ (Int.fdiv (Int.fdiv a1_ (2 ^ (min (Int.toNat (32 : Int)) (IntKind.bits .u64)))) (2 ^ (min (Int.toNat (16 : Int)) (IntKind.bits .u64))))))
            (.g (decide ((0 : Int) ≤ (8 : Int))) <|
              .g (inR (IntKind.wrap .u8 (Int.fdiv (Int.fdiv (Int.fdiv a1_ (2 ^ (min (Int.toNat (32 : Int)) (IntKind.bits .u64)))) (2 ^ (min (Int.toNat (16 : Int)) (IntKind.bits .u64)))) (2 ^ (min (Int.toNat (8 : Int)) (IntKind.bits .u64))))) (List.length ([0, 1, 2, 2, 3, 3, 3, 3, 4, 4, 4, 4, 4, 4, 4, 4, 5, 5, 5, 5, 5, 5, 5, 5, 5, 5, 5, 5, 5, 5, 5, 5, 6, 6, 6, 6, 6, 6, 6, 6, 6, 6, 6, 6, 6, 6, 6, 6, 6, 6, 6, 6, 6, 6, 6, 6, 6, 6, 6, 6, 6, 6, 6, 6, 7, 7, 7, 7, 7, 7, 7, 7, 7, 7, 7, 7, 7, 7, 7, 7, 7, 7, 7, 7, 7, 7, 7, 7, 7, 7, 7, 7, 7, 7, 7, 7, 7, 7, 7, 7, 7, 7, 7, 7, 7, 7, 7, 7, 7, 7, 7, 7, 7, 7, 7, 7, 7, 7, 7, 7, 7, 7, 7, 7, 7, 7, 7, 7, 8, 8, 8, 8, 8, 8, 8, 8, 8, 8, 8, 8, 8, 8, 8, 8, 8, 8, 8, 8, 8, 8, 8, 8, 8, 8, 8, 8, 8, 8, 8, 8, 8, 8, 8, 8, 8, 8, 8, 8, 8, 8, 8, 8, 8, 8, 8, 8, 8, 8, 8, 8, 8, 8, 8, 8, 8, 8, 8, 8, 8, 8, 8, 8, 8, 8, 8, 8, 8, 8, 8, 8, 8, 8, 8, 8, 8, 8, 8, 8, 8, 8, 8, 8, 8, 8, 8, 8, 8, 8, 8, 8, 8, 8, 8, 8, 8, 8, 8, 8, 8, 8, 8, 8, 8, 8, 8, 8, 8, 8, 8, 8, 8, 8, 8, 8, 8, 8, 8, 8, 8, 8, 8, 8, 8, 8, 8, 8] : List UInt8))) <|
              .l (IntKind.wrap .i64 ((IntKind.wrap .i64 ((IntKind.wrap .i64 ((32 : Int) + (16 : Int))) + (8 : Int))) + (IntKind.wrap .i64 ((UInt8.toNat (List.getD ([0, 1, 2, 2, 3, 3, 3, 3, 4, 4, 4, 4, 4, 4, 4, 4, 5, 5, 5, 5, 5, 5, 5, 5, 5, 5, 5, 5, 5, 5, 5, 5, 6, 6, 6, 6, 6, 6, 6, 6, 6, 6, 6, 6, 6, 6, 6, 6, 6, 6, 6, 6, 6, 6, 6, 6, 6, 6, 6, 6, 6, 6, 6, 6, 7, 7, 7, 7, 7, 7, 7, 7, 7, 7, 7, 7, 7, 7, 7, 7, 7, 7, 7, 7, 7, 7, 7, 7, 7, 7, 7, 7, 7, 7, 7, 7, 7, 7, 7, 7, 7, 7, 7, 7, 7, 7, 7, 7, 7, 7, 7, 7, 7, 7, 7, 7, 7, 7, 7, 7, 7, 7, 7, 7, 7, 7, 7, 7, 8, 8, 8, 8, 8, 8, 8, 8, 8, 8, 8, 8, 8, 8, 8, 8, 8, 8, 8, 8, 8, 8, 8, 8, 8, 8, 8, 8, 8, 8, 8, 8, 8, 8, 8, 8, 8, 8, 8, 8, 8, 8, 8, 8, 8, 8, 8, 8, 8, 8, 8, 8, 8, 8, 8, 8, 8, 8, 8, 8, 8, 8, 8, 8, 8, 8, 8, 8, 8, 8, 8, 8, 8, 8, 8, 8, 8, 8, 8, 8, 8, 8, 8, 8, 8, 8, 8, 8, 8, 8, 8, 8, 8, 8, 8, 8, 8, 8, 8, 8, 8, 8, 8, 8, 8, 8, 8, 8, 8, 8, 8, 8, 8, 8, 8, 8, 8, 8, 8, 8, 8, 8, 8, 8, 8, 8, 8, 8] : List UInt8) (Int.toNat (IntKind.wrap .u8 (Int.fdiv (Int.fdiv (Int.fdiv a1_ (2 ^ (min (Int.toNat (32 : Int)) (IntKind.bits .u64)))) (2 ^ (min (Int.toNat (16 : Int)) (IntKind.bits .u64)))) (2 ^ (min (Int.toNat (8 : Int)) (IntKind.bits .u64)))))) 0) : Nat) : Int)))))
            (.g (inR (IntKind.wrap .u8 (Int.fdiv (Int.fdiv a1_ (2 ^ (min (Int.toNat (32 : Int)) (IntKind.bits .u64)))) (2 ^ (min (Int.toNat (16 : Int)) (IntKind.bits .u64))))) (List.length ([0, 1, 2, 2, 3, 3, 3, 3, 4, 4, 4, 4, 4, 4, 4, 4, 5, 5, 5, 5, 5, 5, 5, 5, 5, 5, 5, 5, 5, 5, 5, 5, 6, 6, 6, 6, 6, 6, 6, 6, 6, 6, 6, 6, 6, 6, 6, 6, 6, 6, 6, 6, 6, 6, 6, 6, 6, 6, 6, 6, 6, 6, 6, 6, 7, 7, 7, 7, 7, 7, 7, 7, 7, 7, 7, 7, 7, 7, 7, 7, 7, 7, 7, 7, 7, 7, 7, 7, 7, 7, 7, 7, 7, 7, 7, 7, 7, 7, 7, 7, 7, 7, 7, 7, 7, 7, 7, 7, 7, 7, 7, 7, 7, 7, 7, 7, 7, 7, 7, 7, 7, 7, 7, 7, 7, 7, 7, 7, 8, 8, 8, 8, 8, 8, 8, 8, 8, 8, 8, 8, 8, 8, 8, 8, 8, 8, 8, 8, 8, 8, 8, 8, 8, 8, 8, 8, 8, 8, 8, 8, 8, 8, 8, 8, 8, 8, 8, 8, 8, 8, 8, 8, 8, 8, 8, 8, 8, 8, 8, 8, 8, 8, 8, 8, 8, 8, 8, 8, 8, 8, 8, 8, 8, 8, 8, 8, 8, 8, 8, 8, 8, 8, 8, 8, 8, 8, 8, 8, 8, 8, 8, 8, 8, 8, 8, 8, 8, 8, 8, 8, 8, 8, 8, 8, 8, 8, 8, 8, 8, 8, 8, 8, 8, 8, 8, 8, 8, 8, 8, 8, 8, 8, 8, 8, 8, 8, 8, 8, 8, 8, 8, 8, 8, 8, 8, 8] : List UInt8))) <|
              .l (IntKind.wrap .i64 ((IntKind.wrap .i64 ((32 : Int) + (16 : Int))) + (IntKind.wrap .i64 ((UInt8.toNat (List.getD ([0, 1, 2, 2, 3, 3, 3, 3, 4, 4, 4, 4, 4, 4, 4, 4, 5, 5, 5, 5, 5, 5, 5, 5, 5, 5, 5, 5, 5, 5, 5, 5, 6, 6, 6, 6, 6, 6, 6, 6, 6, 6, 6, 6, 6, 6, 6, 6, 6, 6, 6, 6, 6, 6, 6, 6, 6, 6, 6, 6, 6, 6, 6, 6, 7, 7, 7, 7, 7, 7, 7, 7, 7, 7, 7, 7, 7, 7, 7, 7, 7, 7, 7, 7, 7, 7, 7, 7, 7, 7, 7, 7, 7, 7, 7, 7, 7, 7, 7, 7, 7, 7, 7, 7, 7, 7, 7, 7, 7, 7, 7, 7, 7, 7, 7, 7, 7, 7, 7, 7, 7, 7, 7, 7, 7, 7, 7, 7, 8, 8, 8, 8, 8, 8, 8, 8, 8, 8, 8, 8, 8, 8, 8, 8, 8, 8, 8, 8, 8, 8, 8, 8, 8, 8, 8, 8, 8, 8, 8, 8, 8, 8, 8, 8, 8, 8, 8, 8, 8, 8, 8, 8, 8, 8, 8, 8, 8, 8, 8, 8, 8, 8, 8, 8, 8, 8, 8, 8, 8, 8, 8, 8, 8, 8, 8, 8, 8, 8, 8, 8, 8, 8, 8, 8, 8, 8, 8, 8, 8, 8, 8, 8, 8, 8, 8, 8, 8, 8, 8, 8, 8, 8, 8, 8, 8, 8, 8, 8, 8, 8, 8, 8, 8, 8, 8, 8, 8, 8, 8, 8, 8, 8, 8, 8, 8, 8, 8, 8, 8, 8, 8, 8, 8, 8, 8, 8] : List UInt8) (Int.toNat (IntKind.wrap .u8 (Int.fdiv (Int.fdiv a1_ (2 ^ (min (Int.toNat (32 : Int)) (IntKind.bits .u64)))) (2 ^ (min (Int.toNat (16 : Int)) (IntKind.bits .u64)))))) 0) : Nat) : Int))))))
        (.t (decide ((256 : Int) ≤ (Int.fdiv a1_ (2 ^ (min (Int.toNat (32 : Int)) (IntKind.bits .u64))))))
            (.g (decide ((0 : Int) ≤ (8 : Int))) <|
              .g (inR (IntKind.wrap .u8 (Int.fdiv (Int.fdiv a1_ (2 ^ (min (Int.toNat (32 : Int)) (IntKind.bits .u64)))) (2 ^ (min (Int.toNat (8 : Int)) (IntKind.bits .u64))))) (List.length ([0, 1, 2, 2, 3, 3, 3, 3, 4, 4, 4, 4, 4, 4, 4, 4, 5, 5, 5, 5, 5, 5, 5, 5, 5, 5, 5, 5, 5, 5, 5, 5, 6, 6, 6, 6, 6, 6, 6, 6, 6, 6, 6, 6, 6, 6, 6, 6, 6, 6, 6, 6, 6, 6, 6, 6, 6, 6, 6, 6, 6, 6, 6, 6, 7, 7, 7, 7, 7, 7, 7, 7, 7, 7, 7, 7, 7, 7, 7, 7, 7, 7, 7, 7, 7, 7, 7, 7, 7, 7, 7, 7, 7, 7, 7, 7, 7, 7, 7, 7, 7, 7, 7, 7, 7, 7, 7, 7, 7, 7, 7, 7, 7, 7, 7, 7, 7, 7, 7, 7, 7, 7, 7, 7, 7, 7, 7, 7, 8, 8, 8, 8, 8, 8, 8, 8, 8, 8, 8, 8, 8, 8, 8, 8, 8, 8, 8, 8, 8, 8, 8, 8, 8, 8, 8, 8, 8, 8, 8, 8, 8, 8, 8, 8, 8, 8, 8, 8, 8, 8, 8, 8, 8, 8, 8, 8, 8, 8, 8, 8, 8, 8, 8, 8, 8, 8, 8, 8, 8, 8, 8, 8, 8, 8, 8, 8, 8, 8, 8, 8, 8, 8, 8, 8, 8, 8, 8, 8, 8, 8, 8, 8, 8, 8, 8, 8, 8, 8, 8, 8, 8, 8, 8, 8, 8, 8, 8, 8, 8, 8, 8, 8, 8, 8, 8, 8, 8, 8, 8, 8, 8, 8, 8, 8, 8, 8, 8, 8, 8, 8, 8, 8, 8, 8, 8, 8] : List UInt8))) <|
              .l (IntKind.wrap .i64 ((IntKind.wrap .i64 ((32 : Int) + (8 : Int))) + (IntKind.wrap .i64 ((UInt8.toNat (List.getD ([0, 1, 2, 2, 3, 3, 3, 3, 4, 4, 4, 4, 4, 4, 4, 4, 5, 5, 5, 5, 5, 5, 5, 5, 5, 5, 5, 5, 5, 5, 5, 5, 6, 6, 6, 6, 6, 6, 6, 6, 6, 6, 6, 6, 6, 6, 6, 6, 6, 6, 6, 6, 6, 6, 6, 6, 6, 6, 6, 6, 6, 6, 6, 6, 7, 7, 7, 7, 7, 7, 7, 7, 7, 7, 7, 7, 7, 7, 7, 7, 7, 7, 7, 7, 7, 7, 7, 7, 7, 7, 7, 7, 7, 7, 7, 7, 7, 7, 7, 7, 7, 7, 7, 7, 7, 7, 7, 7, 7, 7, 7, 7, 7, 7, 7, 7, 7, 7, 7, 7, 7, 7, 7, 7, 7, 7, 7, 7, 8, 8, 8, 8, 8, 8, 8, 8, 8, 8, 8, 8, 8, 8, 8, 8, 8, 8, 8, 8, 8, 8, 8, 8, 8, 8, 8, 8, 8, 8, 8, 8, 8, 8, 8, 8, 8, 8, 8, 8, 8, 8, 8, 8, 8, 8, 8, 8, 8, 8, 8, 8, 8, 8, 8, 8, 8, 8, 8, 8, 8, 8, 8, 8, 8, 8, 8, 8, 8, 8, 8, 8, 8, 8, 8, 8, 8, 8, 8, 8, 8, 8, 8, 8, 8, 8, 8, 8, 8, 8, 8, 8, 8, 8, 8, 8, 8, 8, 8, 8, 8, 8, 8, 8, 8, 8, 8, 8, 8, 8, 8, 8, 8, 8, 8, 8, 8, 8, 8, 8, 8, 8, 8, 8, 8, 8, 8, 8] : List UInt8) (Int.toNat (IntKind.wrap .u8 (Int.fdiv (Int.fdiv a1_ (2 ^ (min (Int.toNat (32 : Int)) (IntKind.bits .u64)))) (2 ^ (min (Int.toNat (8 : Int)) (IntKind.bits .u64)))))) 0) : Nat) : Int)))))
            (.g (inR (IntKind.wrap .u8 (Int.fdiv a1_ (2 ^ (min (Int.toNat (32 : Int)) (IntKind.bits .u64))))) (List.length ([0, 1, 2, 2, 3, 3, 3, 3, 4, 4, 4, 4, 4, 4, 4, 4, 5, 5, 5, 5, 5, 5, 5, 5, 5, 5, 5, 5, 5, 5, 5, 5, 6, 6, 6, 6, 6, 6, 6, 6, 6, 6, 6, 6, 6, 6, 6, 6, 6, 6, 6, 6, 6, 6, 6, 6, 6, 6, 6, 6, 6, 6, 6, 6, 7, 7, 7, 7, 7, 7, 7, 7, 7, 7, 7, 7, 7, 7, 7, 7, 7, 7, 7, 7, 7, 7, 7, 7, 7, 7, 7, 7, 7, 7, 7, 7, 7, 7, 7, 7, 7, 7, 7, 7, 7, 7, 7, 7, 7, 7, 7, 7, 7, 7, 7, 7, 7, 7, 7, 7, 7, 7, 7, 7, 7, 7, 7, 7, 8, 8, 8, 8, 8, 8, 8, 8, 8, 8, 8, 8, 8, 8, 8, 8, 8, 8, 8, 8, 8, 8, 8, 8, 8, 8, 8, 8, 8, 8, 8, 8, 8, 8, 8, 8, 8, 8, 8, 8, 8, 8, 8, 8, 8, 8, 8, 8, 8, 8, 8, 8, 8, 8, 8, 8, 8, 8, 8, 8, 8, 8, 8, 8, 8, 8, 8, 8, 8, 8, 8, 8, 8, 8, 8, 8, 8, 8, 8, 8, 8, 8, 8, 8, 8, 8, 8, 8, 8, 8, 8, 8, 8, 8, 8, 8, 8, 8, 8, 8, 8, 8, 8, 8, 8, 8, 8, 8, 8, 8, 8, 8, 8, 8, 8, 8, 8, 8, 8, 8, 8, 8, 8, 8, 8, 8, 8, 8] : List UInt8))) <|
              .l (IntKind.wrap .i64 ((32 : Int) + (IntKind.wrap .i64 ((UInt8.toNat (List.getD ([0, 1, 2, 2, 3, 3, 3, 3, 4, 4, 4, 4, 4, 4, 4, 4, 5, 5, 5, 5, 5, 5, 5, 5, 5, 5, 5, 5, 5, 5, 5, 5, 6, 6, 6, 6, 6, 6, 6, 6, 6, 6, 6, 6, 6, 6, 6, 6, 6, 6, 6, 6, 6, 6, 6, 6, 6, 6, 6, 6, 6, 6, 6, 6, 7, 7, 7, 7, 7, 7, 7, 7, 7, 7, 7, 7, 7, 7, 7, 7, 7, 7, 7, 7, 7, 7, 7, 7, 7, 7, 7, 7, 7, 7, 7, 7, 7, 7, 7, 7, 7, 7, 7, 7, 7, 7, 7, 7, 7, 7, 7, 7, 7, 7, 7, 7, 7, 7, 7, 7, 7, 7, 7, 7, 7, 7, 7, 7, 8, 8, 8, 8, 8, 8, 8, 8, 8, 8, 8, 8, 8, 8, 8, 8, 8, 8, 8, 8, 8, 8, 8, 8, 8, 8, 8, 8, 8, 8, 8, 8, 8, 8, 8, 8, 8, 8, 8, 8, 8, 8, 8, 8, 8, 8, 8, 8, 8, 8, 8, 8, 8, 8, 8, 8, 8, 8, 8, 8, 8, 8, 8, 8, 8, 8, 8, 8, 8, 8, 8, 8, 8, 8, 8, 8, 8, 8, 8, 8, 8, 8, 8, 8, 8, 8, 8, 8, 8, 8, 8, 8, 8, 8, 8, 8, 8, 8, 8, 8, 8, 8, 8, 8, 8, 8, 8, 8, 8, 8, 8, 8, 8, 8, 8, 8, 8, 8, 8, 8, 8, 8, 8, 8, 8, 8, 8, 8] : List UInt8) (Int.toNat (IntKind.wrap .u8 (Int.fdiv a1_ (2 ^ (min (Int.toNat (32 : Int)) (IntKind.bits .u64)))))) 0) : Nat) : Int)))))))
    (.t (decide ((65536 : Int) ≤ a1_))
        (.g (decide ((0 : Int) ≤ (16 : Int))) <|
          .t (decide ((256 : Int) ≤ (Int.fdiv a1_ (2 ^ (min (Int.toNat (16 : Int)) (IntKind.bits .u64))))))
            (.g (decide ((0 : Int) ≤ (8 : Int))) <|
              .g (inR (IntKind.wrap .u8 (Int.fdiv (Int.fdiv a1_ (2 ^ (min (Int.toNat (16 : Int)) (IntKind.bits .u64)))) (2 ^ (min (Int.toNat (8 : Int)) (IntKind.bits .u64))))) (List.length ([0, 1, 2, 2, 3, 3, 3, 3, 4, 4, 4, 4, 4, 4, 4, 4, 5, 5, 5, 5, 5, 5, 5, 5, 5, 5, 5, 5, 5, 5, 5, 5, 6, 6, 6, 6, 6, 6, 6, 6, 6, 6, 6, 6, 6, 6, 6, 6, 6, 6, 6, 6, 6, 6, 6, 6, 6, 6, 6, 6, 6, 6, 6, 6, 7, 7, 7, 7, 7, 7, 7, 7, 7, 7, 7, 7, 7, 7, 7, 7, 7, 7, 7, 7, 7, 7, 7, 7, 7, 7, 7, 7, 7, 7, 7, 7, 7, 7, 7, 7, 7, 7, 7, 7, 7, 7, 7, 7, 7, 7, 7, 7, 7, 7, 7, 7, 7, 7, 7, 7, 7, 7, 7, 7, 7, 7, 7, 7, 8, 8, 8, 8, 8, 8, 8, 8, 8, 8, 8, 8, 8, 8, 8, 8, 8, 8, 8, 8, 8, 8, 8, 8, 8, 8, 8, 8, 8, 8, 8, 8, 8, 8, 8, 8, 8, 8, 8, 8, 8, 8, 8, 8, 8, 8, 8, 8, 8, 8, 8, 8, 8, 8, 8, 8, 8, 8, 8, 8, 8, 8, 8, 8, 8, 8, 8, 8, 8, 8, 8, 8, 8, 8, 8, 8, 8, 8, 8, 8, 8, 8, 8, 8, 8, 8, 8, 8, 8, 8, 8, 8, 8, 8, 8, 8, 8, 8, 8, 8, 8, 8, 8, 8, 8, 8, 8, 8, 8, 8, 8, 8, 8, 8, 8, 8, 8, 8, 8, 8, 8, 8, 8, 8, 8, 8, 8, 8] : List UInt8))) <|
              .l (IntKind.wrap .i64 ((IntKind.wrap .i64 ((IntKind.wrap .i64 ((0 : Int) + (16 : Int))) + (8 : Int))) + (IntKind.wrap .i64 ((UInt8.toNat (List.getD ([0, 1, 2, 2, 3, 3, 3, 3, 4, 4, 4, 4, 4, 4, 4, 4, 5, 5, 5, 5, 5, 5, 5, 5, 5, 5, 5, 5, 5, 5, 5, 5, 6, 6, 6, 6, 6, 6, 6, 6, 6, 6, 6, 6, 6, 6, 6, 6, 6, 6, 6, 6, 6, 6, 6, 6, 6, 6, 6, 6, 6, 6, 6, 6, 7, 7, 7, 7, 7, 7, 7, 7, 7, 7, 7, 7, 7, 7, 7, 7, 7, 7, 7, 7, 7, 7, 7, 7, 7, 7, 7, 7, 7, 7, 7, 7, 7, 7, 7, 7, 7, 7, 7, 7, 7, 7, 7, 7, 7, 7, 7, 7, 7, 7, 7, 7, 7, 7, 7, 7, 7, 7, 7, 7, 7, 7, 7, 7, 8, 8, 8, 8, 8, 8, 8, 8, 8, 8, 8, 8, 8, 8, 8, 8, 8, 8, 8, 8, 8, 8, 8, 8, 8, 8, 8, 8, 8, 8, 8, 8, 8, 8, 8, 8, 8, 8, 8, 8, 8, 8, 8, 8, 8, 8, 8, 8, 8, 8, 8, 8, 8, 8, 8, 8, 8, 8, 8, 8, 8, 8, 8, 8, 8, 8, 8, 8, 8, 8, 8, 8, 8, 8, 8, 8, 8, 8, 8, 8, 8, 8, 8, 8, 8, 8, 8, 8, 8, 8, 8, 8, 8, 8, 8, 8, 8, 8, 8, 8, 8, 8, 8, 8, 8, 8, 8, 8, 8, 8, 8, 8, 8, 8, 8, 8, 8, 8, 8, 8, 8, 8, 8, 8, 8, 8, 8, 8] : List UInt8) (Int.toNat (IntKind.wrap .u8 (Int.fdiv (Int.fdiv a1_ (2 ^ (min (Int.toNat (16 : Int)) (IntKind.bits .u64)))) (2 ^ (min (Int.toNat (8 : Int)) (IntKind.bits .u64)))))) 0) : Nat) : Int)))))
            (.g (inR (IntKind.wrap .u8 (Int.fdiv a1_ (2 ^ (min (Int.toNat (16 : Int)) (IntKind.bits .u64))))) (List.length ([0, 1, 2, 2, 3, 3, 3, 3, 4, 4, 4, 4, 4, 4, 4, 4, 5, 5, 5, 5, 5, 5, 5, 5, 5, 5, 5, 5, 5, 5, 5, 5, 6, 6, 6, 6, 6, 6, 6, 6, 6, 6, 6, 6, 6, 6, 6, 6, 6, 6, 6, 6, 6, 6, 6, 6, 6, 6, 6, 6, 6, 6, 6, 6, 7, 7, 7, 7, 7, 7, 7, 7, 7, 7, 7, 7, 7, 7, 7, 7, 7, 7, 7, 7, 7, 7, 7, 7, 7, 7, 7, 7, 7, 7, 7, 7, 7, 7, 7, 7, 7, 7, 7, 7, 7, 7, 7, 7, 7, 7, 7, 7, 7, 7, 7, 7, 7, 7, 7, 7, 7, 7, 7, 7, 7, 7, 7, 7, 8, 8, 8, 8, 8, 8, 8, 8, 8, 8, 8, 8, 8, 8, 8, 8, 8, 8, 8, 8, 8, 8, 8, 8, 8, 8, 8, 8, 8, 8, 8, 8, 8, 8, 8, 8, 8, 8, 8, 8, 8, 8, 8, 8, 8, 8, 8, 8, 8, 8, 8, 8, 8, 8, 8, 8, 8, 8, 8, 8, 8, 8, 8, 8, 8, 8, 8, 8, 8, 8, 8, 8, 8, 8, 8, 8, 8, 8, 8, 8, 8, 8, 8, 8, 8, 8, 8, 8, 8, 8, 8, 8, 8, 8, 8, 8, 8, 8, 8, 8, 8, 8, 8, 8, 8, 8, 8, 8, 8, 8, 8, 8, 8, 8, 8, 8, 8, 8, 8, 8, 8, 8, 8, 8, 8, 8, 8, 8] : List UInt8))) <|
              .l (IntKind.wrap .i64 ((IntKind.wrap .i64 ((0 : Int) + (16 : Int))) + (IntKind.wrap .i64 ((UInt8.toNat (List.getD ([0, 1, 2, 2, 3, 3, 3, 3, 4, 4, 4, 4, 4, 4, 4, 4, 5, 5, 5, 5, 5, 5, 5, 5, 5, 5, 5, 5, 5, 5, 5, 5, 6, 6, 6, 6, 6, 6, 6, 6, 6, 6, 6, 6, 6, 6, 6, 6, 6, 6, 6, 6, 6, 6, 6, 6, 6, 6, 6, 6, 6, 6, 6, 6, 7, 7, 7, 7, 7, 7, 7, 7, 7, 7, 7, 7, 7, 7, 7, 7, 7, 7, 7, 7, 7, 7, 7, 7, 7, 7, 7, 7, 7, 7, 7, 7, 7, 7, 7, 7, 7, 7, 7, 7, 7, 7, 7, 7, 7, 7, 7, 7, 7, 7, 7, 7, 7, 7, 7, 7, 7, 7, 7, 7, 7, 7, 7, 7, 8, 8, 8, 8, 8, 8, 8, 8, 8, 8, 8, 8, 8, 8, 8, 8, 8, 8, 8, 8, 8, 8, 8, 8, 8, 8, 8, 8, 8, 8, 8, 8, 8, 8, 8, 8, 8, 8, 8, 8, 8, 8, 8, 8, 8, 8, 8, 8, 8, 8, 8, 8, 8, 8, 8, 8, 8, 8, 8, 8, 8, 8, 8, 8, 8, 8, 8, 8, 8, 8, 8, 8, 8, 8, 8, 8, 8, 8, 8, 8, 8, 8, 8, 8, 8, 8, 8, 8, 8, 8, 8, 8, 8, 8, 8, 8, 8, 8, 8, 8, 8, 8, 8, 8, 8, 8, 8, 8, 8, 8, 8, 8, 8, 8, 8, 8, 8, 8, 8, 8, 8, 8, 8, 8, 8, 8, 8, 8] : List UInt8) (Int.toNat (IntKind.wrap .u8 (Int.fdiv a1_ (2 ^ (min (Int.toNat (16 : Int)) (IntKind.bits .u64)))))) 0) : Nat) : Int))))))
        (.t (decide ((256 : Int) ≤ a1_))
            (.g (decide ((0 : Int) ≤ (8 : Int))) <|
              .g (inR (IntKind.wrap .u8 (Int.fdiv a1_ (2 ^ (min (Int.toNat (8 : Int)) (IntKind.bits .u64))))) (List.length ([0, 1, 2, 2, 3, 3, 3, 3, 4, 4, 4, 4, 4, 4, 4, 4, 5, 5, 5, 5, 5, 5, 5, 5, 5, 5, 5, 5, 5, 5, 5, 5, 6, 6, 6, 6, 6, 6, 6, 6, 6, 6, 6, 6, 6, 6, 6, 6, 6, 6, 6, 6, 6, 6, 6, 6, 6, 6, 6, 6, 6, 6, 6, 6, 7, 7, 7, 7, 7, 7, 7, 7, 7, 7, 7, 7, 7, 7, 7, 7, 7, 7, 7, 7, 7, 7, 7, 7, 7, 7, 7, 7, 7, 7, 7, 7, 7, 7, 7, 7, 7, 7, 7, 7, 7, 7, 7, 7, 7, 7, 7, 7, 7, 7, 7, 7, 7, 7, 7, 7, 7, 7, 7, 7, 7, 7, 7, 7, 8, 8, 8, 8, 8, 8, 8, 8, 8, 8, 8, 8, 8, 8, 8, 8, 8, 8, 8, 8, 8, 8, 8, 8, 8, 8, 8, 8, 8, 8, 8, 8, 8, 8, 8, 8, 8, 8, 8, 8, 8, 8, 8, 8, 8, 8, 8, 8, 8, 8, 8, 8, 8, 8, 8, 8, 8, 8, 8, 8, 8, 8, 8, 8, 8, 8, 8, 8, 8, 8, 8, 8, 8, 8, 8, 8, 8, 8, 8, 8, 8, 8, 8, 8, 8, 8, 8, 8, 8, 8, 8, 8, 8, 8, 8, 8, 8, 8, 8, 8, 8, 8, 8, 8, 8, 8, 8, 8, 8, 8, 8, 8, 8, 8, 8, 8, 8, 8, 8, 8, 8, 8, 8, 8, 8, 8, 8, 8] : List UInt8))) <|
              .l (IntKind.wrap .i64 ((IntKind.wrap .i64 ((0 : Int) + (8 : Int))) + (IntKind.wrap .i64 ((UInt8.toNat (List.getD ([0, 1, 2, 2, 3, 3, 3, 3, 4, 4, 4, 4, 4, 4, 4, 4, 5, 5, 5, 5, 5, 5, 5, 5, 5, 5, 5, 5, 5, 5, 5, 5, 6, 6, 6, 6, 6, 6, 6, 6, 6, 6, 6, 6, 6, 6, 6, 6, 6, 6, 6, 6, 6, 6, 6, 6, 6, 6, 6, 6, 6, 6, 6, 6, 7, 7, 7, 7, 7, 7, 7, 7, 7, 7, 7, 7, 7, 7, 7, 7, 7, 7, 7, 7, 7, 7, 7, 7, 7, 7, 7, 7, 7, 7, 7, 7, 7, 7, 7, 7, 7, 7, 7, 7, 7, 7, 7, 7, 7, 7, 7, 7, 7, 7, 7, 7, 7, 7, 7, 7, 7, 7, 7, 7, 7, 7, 7, 7, 8, 8, 8, 8, 8, 8, 8, 8, 8, 8, 8, 8, 8, 8, 8, 8, 8, 8, 8, 8, 8, 8, 8, 8, 8, 8, 8, 8, 8, 8, 8, 8, 8, 8, 8, 8, 8, 8, 8, 8, 8, 8, 8, 8, 8, 8, 8, 8, 8, 8, 8, 8, 8, 8, 8, 8, 8, 8, 8, 8, 8, 8, 8, 8, 8, 8, 8, 8, 8, 8, 8, 8, 8, 8, 8, 8, 8, 8, 8, 8, 8, 8, 8, 8, 8, 8, 8, 8, 8, 8, 8, 8, 8, 8, 8, 8, 8, 8, 8, 8, 8, 8, 8, 8, 8, 8, 8, 8, 8, 8, 8, 8, 8, 8, 8, 8, 8, 8, 8, 8, 8, 8, 8, 8, 8, 8, 8, 8] : List UInt8) (Int.toNat (IntKind.wrap .u8 (Int.fdiv a1_ (2 ^ (min (Int.toNat (8 : Int)) (IntKind.bits .u64)))))) 0) : Nat) : Int)))))
            (.g (inR (IntKind.wrap .u8 a1_) (List.length ([0, 1, 2, 2, 3, 3, 3, 3, 4, 4, 4, 4, 4, 4, 4, 4, 5, 5, 5, 5, 5, 5, 5, 5, 5, 5, 5, 5, 5, 5, 5, 5, 6, 6, 6, 6, 6, 6, 6, 6, 6, 6, 6, 6, 6, 6, 6, 6, 6, 6, 6, 6, 6, 6, 6, 6, 6, 6, 6, 6, 6, 6, 6, 6, 7, 7, 7, 7, 7, 7, 7, 7, 7, 7, 7, 7, 7, 7, 7, 7, 7, 7, 7, 7, 7, 7, 7, 7, 7, 7, 7, 7, 7, 7, 7, 7, 7, 7, 7, 7, 7, 7, 7, 7, 7, 7, 7, 7, 7, 7, 7, 7, 7, 7, 7, 7, 7, 7, 7, 7, 7, 7, 7, 7, 7, 7, 7, 7, 8, 8, 8, 8, 8, 8, 8, 8, 8, 8, 8, 8, 8, 8, 8, 8, 8, 8, 8, 8, 8, 8, 8, 8, 8, 8, 8, 8, 8, 8, 8, 8, 8, 8, 8, 8, 8, 8, 8, 8, 8, 8, 8, 8, 8, 8, 8, 8, 8, 8, 8, 8, 8, 8, 8, 8, 8, 8, 8, 8, 8, 8, 8, 8, 8, 8, 8, 8, 8, 8, 8, 8, 8, 8, 8, 8, 8, 8, 8, 8, 8, 8, 8, 8, 8, 8, 8, 8, 8, 8, 8, 8, 8, 8, 8, 8, 8, 8, 8, 8, 8, 8, 8, 8, 8, 8, 8, 8, 8, 8, 8, 8, 8, 8, 8, 8, 8, 8, 8, 8, 8, 8, 8, 8, 8, 8, 8, 8] : List UInt8))) <|
              .l (IntKind.wrap .i64 ((0 : Int) + (IntKind.wrap .i64 ((UInt8.toNat (List.getD ([0, 1, 2, 2, 3, 3, 3, 3, 4, 4, 4, 4, 4, 4, 4, 4, 5, 5, 5, 5, 5, 5, 5, 5, 5, 5, 5, 5, 5, 5, 5, 5, 6, 6, 6, 6, 6, 6, 6, 6, 6, 6, 6, 6, 6, 6, 6, 6, 6, 6, 6, 6, 6, 6, 6, 6, 6, 6, 6, 6, 6, 6, 6, 6, 7, 7, 7, 7, 7, 7, 7, 7, 7, 7, 7, 7, 7, 7, 7, 7, 7, 7, 7, 7, 7, 7, 7, 7, 7, 7, 7, 7, 7, 7, 7, 7, 7, 7, 7, 7, 7, 7, 7, 7, 7, 7, 7, 7, 7, 7, 7, 7, 7, 7, 7, 7, 7, 7, 7, 7, 7, 7, 7, 7, 7, 7, 7, 7, 8, 8, 8, 8, 8, 8, 8, 8, 8, 8, 8, 8, 8, 8, 8, 8, 8, 8, 8, 8, 8, 8, 8, 8, 8, 8, 8, 8, 8, 8, 8, 8, 8, 8, 8, 8, 8, 8, 8, 8, 8, 8, 8, 8, 8, 8, 8, 8, 8, 8, 8, 8, 8, 8, 8, 8, 8, 8, 8, 8, 8, 8, 8, 8, 8, 8, 8, 8, 8, 8, 8, 8, 8, 8, 8, 8, 8, 8, 8, 8, 8, 8, 8, 8, 8, 8, 8, 8, 8, 8, 8, 8, 8, 8, 8, 8, 8, 8, 8, 8, 8, 8, 8, 8, 8, 8, 8, 8, 8, 8, 8, 8, 8, 8, 8, 8, 8, 8, 8, 8, 8, 8, 8, 8, 8, 8, 8, 8] : List UInt8) (Int.toNat (IntKind.wrap .u8 a1_)) 0) : Nat) : Int)))))))
noncomputable def F_math_bits_Len64 (a1_ : Int) : Option (Int) := (T_math_bits_Len64 a1_).ev
noncomputable def A_math_bits_Len64 : Sh := (.cons (.dat (.int .u64)) .nil)
noncomputable def I_math_bits_Len64 : List (Nat × OSh) := []
noncomputable def K_math_bits_Len64 : RetK := { acts := [], res := [.tmp 2], sh := (.cons (.dat (.int .i64)) .nil), obs := [], pins := [] }
noncomputable def D_math_bits_Len64 : FD where
  A := A_math_bits_Len64
  ins := I_math_bits_Len64
  lend := []
  R := Int
  F := fun x => F_math_bits_Len64 x.1.1
  emb := fun r => ([.dat (.int .i64) r], [])
noncomputable def E_math_bits_Len64 : Env := envOf []
noncomputable def Z_math_bits_Len64 : Nat → Nat → List Nat := fun _ _ => []
noncomputable def O_math_bits_Len64 : List (Nat × LD) := []
noncomputable def C_math_bits_Len64 : Code := (f204.body).getD .skip
noncomputable def T_math_bits_Len (a1_ : Int) : Tr (Int) :=
  .c (Int) (F_math_bits_Len64 a1_) fun r1_ =>
  .l r1_
noncomputable def F_math_bits_Len (a1_ : Int) : Option (Int) := (T_math_bits_Len a1_).ev
noncomputable def A_math_bits_Len : Sh := (.cons (.dat (.int .u64)) .nil)
noncomputable def I_math_bits_Len : List (Nat × OSh) := []
noncomputable def K_math_bits_Len : RetK := { acts := [], res := [.tmp 2], sh := (.cons (.dat (.int .i64)) .nil), obs := [], pins := [] }
noncomputable def D_math_bits_Len : FD where
  A := A_math_bits_Len
  ins := I_math_bits_Len
  lend := []
  R := Int
  F := fun x => F_math_bits_Len x.1.1
  emb := fun r => ([.dat (.int .i64) r], [])
noncomputable def E_math_bits_Len : Env := envOf [(204, D_math_bits_Len64)]
noncomputable def Z_math_bits_Len : Nat → Nat → List Nat := fun _ _ => []
noncomputable def O_math_bits_Len : List (Nat × LD) := []
noncomputable def C_math_bits_Len : Code := (f185.body).getD .skip
noncomputable def S_slices_insertionSortCmpFunc_Sint_2 (k : (Int) × ((Int) × (((HL [(.slice (.int .i64)), (.slice (.int .i64))] → Option (Int))) × (Int)))) (v : (Int) × ((List Nat) × (List (List (Int))))) : Tr (((Int) × ((List Nat) × (List (List (Int))))) ⊕ ((List Nat) × (List (List (Int))))) :=
  .t (decide (k.1 < v.1))
    (.g (inR v.1 (List.length v.2.1)) <|
      .g (decide ((Int.toNat v.1) < List.length v.2.1) && decide ((List.getD v.2.1 (Int.toNat v.1) 0) < List.length v.2.2)) <|
      .g (inR (IntKind.wrap .i64 (v.1 - (1 : Int))) (List.length v.2.1)) <|
      .g (decide ((Int.toNat (IntKind.wrap .i64 (v.1 - (1 : Int)))) < List.length v.2.1) && decide ((List.getD v.2.1 (Int.toNat (IntKind.wrap .i64 (v.1 - (1 : Int)))) 0) < List.length v.2.2)) <|
      .c (Int) (k.2.2.1 ((List.getD v.2.2 (List.getD v.2.1 (Int.toNat v.1) 0) ([] : List (Int))), ((List.getD v.2.2 (List.getD v.2.1 (Int.toNat (IntKind.wrap .i64 (v.1 - (1 : Int)))) 0) ([] : List (Int))), ()))) fun r12_ =>
      .t (decide (r12_ < (0 : Int)))
        (.g (inR (IntKind.wrap .i64 (v.1 - (1 : Int))) (List.length v.2.1)) <|
          .g (decide ((Int.toNat (IntKind.wrap .i64 (v.1 - (1 : Int)))) < List.length v.2.1) && decide ((List.getD v.2.1 (Int.toNat (IntKind.wrap .i64 (v.1 - (1 : Int)))) 0) < List.length v.2.2)) <|
          .g (inR v.1 (List.length v.2.1)) <|
          .g (decide ((Int.toNat v.1) < List.length v.2.1) && decide ((List.getD v.2.1 (Int.toNat v.1) 0) < List.length v.2.2)) <|
          .g (inR v.1 (List.length v.2.1)) <|
          .g (decide ((Int.toNat v.1) < List.length v.2.1)) <|
          .g (inR (IntKind.wrap .i64 (v.1 - (1 : Int))) (List.length (List.set v.2.1 (Int.toNat v.1) (List.getD v.2.1 (Int.toNat (IntKind.wrap .i64 (v.1 - (1 : Int)))) 0)))) <|
          .g (decide ((Int.toNat (IntKind.wrap .i64 (v.1 - (1 : Int)))) < List.length (List.set v.2.1 (Int.toNat v.1) (List.getD v.2.1 (Int.toNat (IntKind.wrap .i64 (v.1 - (1 : Int)))) 0)))) <|
          .l (.inl ((IntKind.wrap .i64 (v.1 - (1 : Int))), ((List.set (List.set v.2.1 (Int.toNat v.1) (List.getD v.2.1 (Int.toNat (IntKind.wrap .i64 (v.1 - (1 : Int)))) 0)) (Int.toNat (IntKind.wrap .i64 (v.1 - (1 : Int)))) (List.getD v.2.1 (Int.toNat v.1) 0)), v.2.2))))
        (.l (.inr v.2)))
    (.l (.inr v.2))
noncomputable def L_slices_insertionSortCmpFunc_Sint_2 (k : (Int) × ((Int) × (((HL [(.slice (.int .i64)), (.slice (.int .i64))] → Option (Int))) × (Int)))) (v : (Int) × ((List Nat) × (List (List (Int))))) : Option ((List Nat) × (List (List (Int)))) := iter (fun v => (S_slices_insertionSortCmpFunc_Sint_2 k v).ev) v
noncomputable def DL_slices_insertionSortCmpFunc_Sint_2 : LD where
  head := { acts := [], S := { slots := [0, 1, 2, 3, 8, 9], sh := (.cons (.arr 64) (.cons (.dat (.int .i64)) (.cons (.dat (.int .i64)) (.cons (.clo [(.slice (.int .i64)), (.slice (.int .i64))] (.int .i64)) (.cons (.dat (.int .i64)) (.cons (.dat (.int .i64)) .nil)))))), obs := [(64, .perm 22 3 (.int .i64))] } }
  exits := [(2, { acts := [], S := { slots := [0, 1, 2, 3, 8], sh := (.cons (.arr 64) (.cons (.dat (.int .i64)) (.cons (.dat (.int .i64)) (.cons (.clo [(.slice (.int .i64)), (.slice (.int .i64))] (.int .i64)) (.cons (.dat (.int .i64)) .nil))))), obs := [(64, .perm 22 3 (.int .i64))] } })]
  rets := { acts := [], S := { slots := [], sh := .nil, obs := [] } }
  K := (Int) × ((Int) × (((HL [(.slice (.int .i64)), (.slice (.int .i64))] → Option (Int))) × (Int)))
  V := (Int) × ((List Nat) × (List (List (Int))))
  R := (List Nat) × (List (List (Int)))
  join := fun k v => (((), (k.1, (k.2.1, (k.2.2.1, (k.2.2.2, (v.1, ())))))), (v.2, ()))
  sk := fun t => (t.1.2.1, (t.1.2.2.1, (t.1.2.2.2.1, t.1.2.2.2.2.1)))
  sv := fun t => (t.1.2.2.2.2.2.1, t.2.1)
  step := S_slices_insertionSortCmpFunc_Sint_2
  leaf := fun k r => .l (.exit 2 (mkSt ({ slots := [0, 1, 2, 3, 8], sh := (.cons (.arr 64) (.cons (.dat (.int .i64)) (.cons (.dat (.int .i64)) (.cons (.clo [(.slice (.int .i64)), (.slice (.int .i64))] (.int .i64)) (.cons (.dat (.int .i64)) .nil))))), obs := [(64, .perm 22 3 (.int .i64))] }) (((), (k.1, (k.2.1, (k.2.2.1, (k.2.2.2, ()))))), (r, ()))))
noncomputable def S_slices_insertionSortCmpFunc_Sint_0 (k : (Int) × ((Int) × ((HL [(.slice (.int .i64)), (.slice (.int .i64))] → Option (Int))))) (v : (Int) × ((List Nat) × (List (List (Int))))) : Tr (((Int) × ((List Nat) × (List (List (Int))))) ⊕ ((List Nat) × (List (List (Int))))) :=
  .t (decide (v.1 < k.2.1))
    (.c ((List Nat) × (List (List (Int)))) (L_slices_insertionSortCmpFunc_Sint_2 (k.1, (k.2.1, (k.2.2, v.1))) (v.1, v.2)) fun r18_ =>
      .l (.inl ((IntKind.wrap .i64 (v.1 + (1 : Int))), r18_)))
    (.l (.inr v.2))
noncomputable def L_slices_insertionSortCmpFunc_Sint_0 (k : (Int) × ((Int) × ((HL [(.slice (.int .i64)), (.slice (.int .i64))] → Option (Int))))) (v : (Int) × ((List Nat) × (List (List (Int))))) : Option ((List Nat) × (List (List (Int)))) := iter (fun v => (S_slices_insertionSortCmpFunc_Sint_0 k v).ev) v
noncomputable def DL_slices_insertionSortCmpFunc_Sint_0 : LD where
  head := { acts := [], S := { slots := [0, 1, 2, 3, 8], sh := (.cons (.arr 64) (.cons (.dat (.int .i64)) (.cons (.dat (.int .i64)) (.cons (.clo [(.slice (.int .i64)), (.slice (.int .i64))] (.int .i64)) (.cons (.dat (.int .i64)) .nil))))), obs := [(64, .perm 22 3 (.int .i64))] } }
  exits := [(0, { acts := [], S := { slots := [0], sh := (.cons (.arr 64) .nil), obs := [(64, .perm 22 3 (.int .i64))] } })]
  rets := { acts := [], S := { slots := [], sh := .nil, obs := [] } }
  K := (Int) × ((Int) × ((HL [(.slice (.int .i64)), (.slice (.int .i64))] → Option (Int))))
  V := (Int) × ((List Nat) × (List (List (Int))))
  R := (List Nat) × (List (List (Int)))
  join := fun k v => (((), (k.1, (k.2.1, (k.2.2, (v.1, ()))))), (v.2, ()))
  sk := fun t => (t.1.2.1, (t.1.2.2.1, t.1.2.2.2.1))
  sv := fun t => (t.1.2.2.2.2.1, t.2.1)
  step := S_slices_insertionSortCmpFunc_Sint_0
  leaf := fun _ r => .l (.exit 0 (mkSt ({ slots := [0], sh := (.cons (.arr 64) .nil), obs := [(64, .perm 22 3 (.int .i64))] }) (((), ()), (r, ()))))
noncomputable def T_slices_insertionSortCmpFunc_Sint (a2_ : Int) (a3_ : Int) (a4_ : (HL [(.slice (.int .i64)), (.slice (.int .i64))] → Option (Int))) (a1_ : (List Nat) × (List (List (Int)))) : Tr ((List Nat) × (List (List (Int)))) :=
  .c ((List Nat) × (List (List (Int)))) (L_slices_insertionSortCmpFunc_Sint_0 (a2_, (a3_, a4_)) ((IntKind.wrap .i64 (a2_ + (1 : Int))), a1_)) fun r20_ =>
  .l r20_
noncomputable def F_slices_insertionSortCmpFunc_Sint (a2_ : Int) (a3_ : Int) (a4_ : (HL [(.slice (.int .i64)), (.slice (.int .i64))] → Option (Int))) (a1_ : (List Nat) × (List (List (Int)))) : Option ((List Nat) × (List (List (Int)))) := (T_slices_insertionSortCmpFunc_Sint a2_ a3_ a4_ a1_).ev
noncomputable def A_slices_insertionSortCmpFunc_Sint : Sh := (.cons (.arr 64) (.cons (.dat (.int .i64)) (.cons (.dat (.int .i64)) (.cons (.clo [(.slice (.int .i64)), (.slice (.int .i64))] (.int .i64)) .nil))))
noncomputable def I_slices_insertionSortCmpFunc_Sint : List (Nat × OSh) := [(64, .perm 22 3 (.int .i64))]
noncomputable def K_slices_insertionSortCmpFunc_Sint : RetK := { acts := [], res := [], sh := .nil, obs := [(64, .perm 22 3 (.int .i64))], pins := [(0, 0, 64)] }
noncomputable def D_slices_insertionSortCmpFunc_Sint : FD where
  A := A_slices_insertionSortCmpFunc_Sint
  ins := I_slices_insertionSortCmpFunc_Sint
  lend := [.arg 0]
  R := (List Nat) × (List (List (Int)))
  F := fun x => F_slices_insertionSortCmpFunc_Sint x.1.2.1 x.1.2.2.1 x.1.2.2.2.1 x.2.1
  emb := fun r => ([], [(64, .perm false 22 3 (.int .i64) r.1 r.2)])
noncomputable def E_slices_insertionSortCmpFunc_Sint : Env := envOf []
noncomputable def Z_slices_insertionSortCmpFunc_Sint : Nat → Nat → List Nat := fun _ _ => []
noncomputable def O_slices_insertionSortCmpFunc_Sint : List (Nat × LD) := [(2, DL_slices_insertionSortCmpFunc_Sint_2), (0, DL_slices_insertionSortCmpFunc_Sint_0)]
noncomputable def C_slices_insertionSortCmpFunc_Sint : Code := (f205.body).getD .skip
noncomputable def T_slices_nextPowerOfTwo (a1_ : Int) : Tr (Int) :=
  .c (Int) (F_math_bits_Len (IntKind.wrap .u64 a1_)) fun r1_ =>
  .g (decide ((0 : Int) ≤ r1_)) <|
  .l (IntKind.wrap .u64 ((1 : Int) * 2 ^ (min (Int.toNat r1_) (IntKind.bits .u64))))
noncomputable def F_slices_nextPowerOfTwo (a1_ : Int) : Option (Int) := (T_slices_nextPowerOfTwo a1_).ev
noncomputable def A_slices_nextPowerOfTwo : Sh := (.cons (.dat (.int .i64)) .nil)
noncomputable def I_slices_nextPowerOfTwo : List (Nat × OSh) := []
noncomputable def K_slices_nextPowerOfTwo : RetK := { acts := [], res := [.tmp 2], sh := (.cons (.dat (.int .u64)) .nil), obs := [], pins := [] }
noncomputable def D_slices_nextPowerOfTwo : FD where
  A := A_slices_nextPowerOfTwo
  ins := I_slices_nextPowerOfTwo
  lend := []
  R := Int
  F := fun x => F_slices_nextPowerOfTwo x.1.1
  emb := fun r => ([.dat (.int .u64) r], [])
noncomputable def E_slices_nextPowerOfTwo : Env := envOf [(185, D_math_bits_Len)]
noncomputable def Z_slices_nextPowerOfTwo : Nat → Nat → List Nat := fun _ _ => []
noncomputable def O_slices_nextPowerOfTwo : List (Nat × LD) := []
noncomputable def C_slices_nextPowerOfTwo : Code := (f220.body).getD .skip
noncomputable def T_slices_xorshift_Next (a1_ : Int) : Tr ((Int) × (Int)) :=
  .g (decide ((0 : Int) ≤ (13 : Int))) <|
  .g (decide ((0 : Int) ≤ (7 : Int))) <|
  .g (decide ((0 : Int) ≤ (17 : Int))) <|
  .l ((IntKind.wrap .u64 (BitVec.toNat ((BitVec.ofInt (IntKind.bits .u64) (IntKind.wrap .u64 (BitVec.toNat ((BitVec.ofInt (IntKind.bits .u64) (IntKind.wrap .u64 (BitVec.toNat ((BitVec.ofInt (IntKind.bits .u64) a1_) ^^^ (BitVec.ofInt (IntKind.bits .u64) (IntKind.wrap .u64 (a1_ * 2 ^ (min (Int.toNat (13 : Int)) (IntKind.bits .u64))))))))) ^^^ (BitVec.ofInt (IntKind.bits .u64) (Int.fdiv (IntKind.wrap .u64 (BitVec.toNat ((BitVec.ofInt (IntKind.bits .u64) a1_) ^^^ (BitVec.ofInt (IntKind.bits .u64) (IntKind.wrap .u64 (a1_ * 2 ^ (min (Int.toNat (13 : Int)) (IntKind.bits .u64)))))))) (2 ^ (min (Int.toNat (7 : Int)) (IntKind.bits .u64))))))))) ^^^ (BitVec.ofInt (IntKind.bits .u64) (IntKind.wrap .u64 ((IntKind.wrap .u64 (BitVec.toNat ((BitVec.ofInt (IntKind.bits .u64) (IntKind.wrap .u64 (BitVec.toNat ((BitVec.ofInt (IntKind.bits .u64) a1_) ^^^ (BitVec.ofInt (IntKind.bits .u64) (IntKind.wrap .u64 (a1_ * 2 ^ (min (Int.toNat (13 : Int)) (IntKind.bits .u64))))))))) ^^^ (BitVec.ofInt (IntKind.bits .u64) (Int.fdiv (IntKind.wrap .u64 (BitVec.toNat ((BitVec.ofInt (IntKind.bits .u64) a1_) ^^^ (BitVec.ofInt (IntKind.bits .u64) (IntKind.wrap .u64 (a1_ * 2 ^ (min (Int.toNat (13 : Int)) (IntKind.bits .u64)))))))) (2 ^ (min (Int.toNat (7 : Int)) (IntKind.bits .u64)))))))) * 2 ^ (min (Int.toNat (17 : Int)) (IntKind.bits .u64)))))))), (IntKind.wrap .u64 (BitVec.toNat ((BitVec.ofInt (IntKind.bits .u64) (IntKind.wrap .u64 (BitVec.toNat ((BitVec.ofInt (IntKind.bits .u64) (IntKind.wrap .u64 (BitVec.toNat ((BitVec.ofInt (IntKind.bits .u64) a1_) ^^^ (BitVec.ofInt (IntKind.bits .u64) (IntKind.wrap .u64 (a1_ * 2 ^ (min (Int.toNat (13 : Int)) (IntKind.bits .u64))))))))) ^^^ (BitVec.ofInt (IntKind.bits .u64) (Int.fdiv (IntKind.wrap .u64 (BitVec.toNat ((BitVec.ofInt (IntKind.bits .u64) a1_) ^^^ (BitVec.ofInt (IntKind.bits .u64) (IntKind.wrap .u64 (a1_ * 2 ^ (min (Int.toNat (13 : Int)) (IntKind.bits .u64)))))))) (2 ^ (min (Int.toNat (7 : Int)) (IntKind.bits .u64))))))))) ^^^ (BitVec.ofInt (IntKind.bits .u64) (IntKind.wrap .u64 ((IntKind.wrap .u64 (BitVec.toNat ((BitVec.ofInt (IntKind.bits .u64) (IntKind.wrap .u64 (BitVec.toNat ((BitVec.ofInt (IntKind.bits .u64) a1_) ^^^ (BitVec.ofInt (IntKind.bits .u64) (IntKind.wrap .u64 (a1_ * 2 ^ (min (Int.toNat (13 : Int)) (IntKind.bits .u64))))))))) ^^^ (BitVec.ofInt (IntKind.bits .u64) (Int.fdiv (IntKind.wrap .u64 (BitVec.toNat ((BitVec.ofInt (IntKind.bits .u64) a1_) ^^^ (BitVec.ofInt (IntKind.bits .u64) (IntKind.wrap .u64 (a1_ * 2 ^ (min (Int.toNat (13 : Int)) (IntKind.bits .u64)))))))) (2 ^ (min (Int.toNat (7 : Int)) (IntKind.bits .u64)))))))) * 2 ^ (min (Int.toNat (17 : Int)) (IntKind.bits .u64)))))))))
noncomputable def F_slices_xorshift_Next (a1_ : Int) : Option ((Int) × (Int)) := (T_slices_xorshift_Next a1_).ev
noncomputable def A_slices_xorshift_Next : Sh := (.cons (.box 64 0) .nil)
noncomputable def I_slices_xorshift_Next : List (Nat × OSh) := [(64, .cells (.cons (.dat (.int .u64)) .nil))]
noncomputable def K_slices_xorshift_Next : RetK := { acts := [], res := [.tmp 2], sh := (.cons (.dat (.int .u64)) .nil), obs := [(64, .cells (.cons (.dat (.int .u64)) .nil))], pins := [(0, 0, 64)] }
noncomputable def D_slices_xorshift_Next : FD where
  A := A_slices_xorshift_Next
  ins := I_slices_xorshift_Next
  lend := [.arg 0]
  R := (Int) × (Int)
  F := fun x => F_slices_xorshift_Next x.2.1.1
  emb := fun r => ([.dat (.int .u64) r.1], [(64, .cells [.dat (.int .u64) r.2])])
noncomputable def E_slices_xorshift_Next : Env := envOf []
noncomputable def Z_slices_xorshift_Next : Nat → Nat → List Nat := fun _ _ => []
noncomputable def O_slices_xorshift_Next : List (Nat × LD) := []
noncomputable def C_slices_xorshift_Next : Code := (f221.body).getD .skip
noncomputable def S_slices_breakPatternsCmpFunc_Sint_0 (k : (Int) × ((Int) × (Int))) (v : (Int) × (((List Nat) × (List (List (Int)))) × (Int))) : Tr (((Int) × (((List Nat) × (List (List (Int)))) × (Int))) ⊕ ((List Nat) × (List (List (Int))))) :=
  .g (!decide ((4 : Int) = 0)) <|
  .t (decide (v.1 ≤ (IntKind.wrap .i64 ((IntKind.wrap .i64 (k.1 + (IntKind.wrap .i64 ((IntKind.wrap .i64 (Int.tdiv k.2.1 (4 : Int))) * (2 : Int))))) + (1 : Int)))))
    (.c ((Int) × (Int)) (F_slices_xorshift_Next v.2.2) fun r8_ =>
      .t (decide (k.2.1 ≤ (IntKind.wrap .i64 (IntKind.wrap .u64 (BitVec.toNat ((BitVec.ofInt (IntKind.bits .u64) r8_.1) &&& (BitVec.ofInt (IntKind.bits .u64) (IntKind.wrap .u64 (k.2.2 - (1 : Int))))))))))
        (.g (inR (IntKind.wrap .i64 (k.1 + (IntKind.wrap .i64 ((IntKind.wrap .i64 (IntKind.wrap .u64 (BitVec.toNat ((BitVec.ofInt (IntKind.bits .u64) r8_.1) &&& (BitVec.ofInt (IntKind.bits .u64) (IntKind.wrap .u64 (k.2.2 - (1 : Int)))))))) - k.2.1)))) (List.length v.2.1.1)) <|
          .g (decide ((Int.toNat (IntKind.wrap .i64 (k.1 + (IntKind.wrap .i64 ((IntKind.wrap .i64 (IntKind.wrap .u64 (BitVec.toNat ((BitVec.ofInt (IntKind.bits .u64) r8_.1) &&& (BitVec.ofInt (IntKind.bits .u64) (IntKind.wrap .u64 (k.2.2 - (1 : Int)))))))) - k.2.1))))) < List.length v.2.1.1) && decide ((List.getD v.2.1.1 (Int.toNat (IntKind.wrap .i64 (k.1 + (IntKind.wrap .i64 ((IntKind.wrap .i64 (IntKind.wrap .u64 (BitVec.toNat ((BitVec.ofInt (IntKind.bits .u64) r8_.1) &&& (BitVec.ofInt (IntKind.bits .u64) (IntKind.wrap .u64 (k.2.2 - (1 : Int)))))))) - k.2.1))))) 0) < List.length v.2.1.2)) <|
          .g (inR v.1 (List.length v.2.1.1)) <|
          .g (decide ((Int.toNat v.1) < List.length v.2.1.1) && decide ((List.getD v.2.1.1 (Int.toNat v.1) 0) < List.length v.2.1.2)) <|
          .g (inR v.1 (List.length v.2.1.1)) <|
          .g (decide ((Int.toNat v.1) < List.length v.2.1.1)) <|
          .g (inR (IntKind.wrap .i64 (k.1 + (IntKind.wrap .i64 ((IntKind.wrap .i64 (IntKind.wrap .u64 (BitVec.toNat ((BitVec.ofInt (IntKind.bits .u64) r8_.1) &&& (BitVec.ofInt (IntKind.bits .u64) (IntKind.wrap .u64 (k.2.2 - (1 : Int)))))))) - k.2.1)))) (List.length (List.set v.2.1.1 (Int.toNat v.1) (List.getD v.2.1.1 (Int.toNat (IntKind.wrap .i64 (k.1 + (IntKind.wrap .i64 ((IntKind.wrap .i64 (IntKind.wrap .u64 (BitVec.toNat ((BitVec.ofInt (IntKind.bits .u64) r8_.1) &&& (BitVec.ofInt (IntKind.bits .u64) (IntKind.wrap .u64 (k.2.2 - (1 : Int)))))))) - k.2.1))))) 0)))) <|
          .g (decide ((Int.toNat (IntKind.wrap .i64 (k.1 + (IntKind.wrap .i64 ((IntKind.wrap .i64 (IntKind.wrap .u64 (BitVec.toNat ((BitVec.ofInt (IntKind.bits .u64) r8_.1) &&& (BitVec.ofInt (IntKind.bits .u64) (IntKind.wrap .u64 (k.2.2 - (1 : Int)))))))) - k.2.1))))) < List.length (List.set v.2.1.1 (Int.toNat v.1) (List.getD v.2.1.1 (Int.toNat (IntKind.wrap .i64 (k.1 + (IntKind.wrap .i64 ((IntKind.wrap .i64 (IntKind.wrap .u64 (BitVec.toNat ((BitVec.ofInt (IntKind.bits .u64) r8_.1) &&& (BitVec.ofInt (IntKind.bits .u64) (IntKind.wrap .u64 (k.2.2 - (1 : Int)))))))) - k.2.1))))) 0)))) <|
          .l (.inl ((IntKind.wrap .i64 (v.1 + (1 : Int))), (((List.set (List.set v.2.1.1 (Int.toNat v.1) (List.getD v.2.1.1 (Int.toNat (IntKind.wrap .i64 (k.1 + (IntKind.wrap .i64 ((IntKind.wrap .i64 (IntKind.wrap .u64 (BitVec.toNat ((BitVec.ofInt (IntKind.bits .u64) r8_.1) &&& (BitVec.ofInt (IntKind.bits .u64) (IntKind.wrap .u64 (k.2.2 - (1 : Int)))))))) - k.2.1))))) 0)) (Int.toNat (IntKind.wrap .i64 (k.1 + (IntKind.wrap .i64 ((IntKind.wrap .i64 (IntKind.wrap .u64 (BitVec.toNat ((BitVec.ofInt (IntKind.bits .u64) r8_.1) &&& (BitVec.ofInt (IntKind.bits .u64) (IntKind.wrap .u64 (k.2.2 - (1 : Int)))))))) - k.2.1))))) (List.getD v.2.1.1 (Int.toNat v.1) 0)), v.2.1.2), r8_.2))))
        (.g (inR (IntKind.wrap .i64 (k.1 + (IntKind.wrap .i64 (IntKind.wrap .u64 (BitVec.toNat ((BitVec.ofInt (IntKind.bits .u64) r8_.1) &&& (BitVec.ofInt (IntKind.bits .u64) (IntKind.wrap .u64 (k.2.2 - (1 : Int)))))))))) (List.length v.2.1.1)) <|
          .g (decide ((Int.toNat (IntKind.wrap .i64 (k.1 + (IntKind.wrap .i64 (IntKind.wrap .u64 (BitVec.toNat ((BitVec.ofInt (IntKind.bits .u64) r8_.1) &&& (BitVec.ofInt (IntKind.bits .u64) (IntKind.wrap .u64 (k.2.2 - (1 : Int))))))))))) < List.length v.2.1.1) && decide ((List.getD v.2.1.1 (Int.toNat (IntKind.wrap .i64 (k.1 + (IntKind.wrap .i64 (IntKind.wrap .u64 (BitVec.toNat ((BitVec.ofInt (IntKind.bits .u64) r8_.1) &&& (BitVec.ofInt (IntKind.bits .u64) (IntKind.wrap .u64 (k.2.2 - (1 : Int))))))))))) 0) < List.length v.2.1.2)) <|
          .g (inR v.1 (List.length v.2.1.1)) <|
          .g (decide ((Int.toNat v.1) < List.length v.2.1.1) && decide ((List.getD v.2.1.1 (Int.toNat v.1) 0) < List.length v.2.1.2)) <|
          .g (inR v.1 (List.length v.2.1.1)) <|
          .g (decide ((Int.toNat v.1) < List.length v.2.1.1)) <|
          .g (inR (IntKind.wrap .i64 (k.1 + (IntKind.wrap .i64 (IntKind.wrap .u64 (BitVec.toNat ((BitVec.ofInt (IntKind.bits .u64) r8_.1) &&& (BitVec.ofInt (IntKind.bits .u64) (IntKind.wrap .u64 (k.2.2 - (1 : Int)))))))))) (List.length (List.set v.2.1.1 (Int.toNat v.1) (List.getD v.2.1.1 (Int.toNat (IntKind.wrap .i64 (k.1 + (IntKind.wrap .i64 (IntKind.wrap .u64 (BitVec.toNat ((BitVec.ofInt (IntKind.bits .u64) r8_.1) &&& (BitVec.ofInt (IntKind.bits .u64) (IntKind.wrap .u64 (k.2.2 - (1 : Int))))))))))) 0)))) <|
          .g (decide ((Int.toNat (IntKind.wrap .i64 (k.1 + (IntKind.wrap .i64 (IntKind.wrap .u64 (BitVec.toNat ((BitVec.ofInt (IntKind.bits .u64) r8_.1) &&& (BitVec.ofInt (IntKind.bits .u64) (IntKind.wrap .u64 (k.2.2 - (1 : Int))))))))))) < List.length (List.set v.2.1.1 (Int.toNat v.1) (List.getD v.2.1.1 (Int.toNat (IntKind.wrap .i64 (k.1 + (IntKind.wrap .i64 (IntKind.wrap .u64 (BitVec.toNat ((BitVec.ofInt (IntKind.bits .u64) r8_.1) &&& (BitVec.ofInt (IntKind.bits .u64) (IntKind.wrap .u64 (k.2.2 - (1 : Int))))))))))) 0)))) <|
          .l (.inl ((IntKind.wrap .i64 (v.1 + (1 : Int))), (((List.set (List.set v.2.1.1 (Int.toNat v.1) (List.getD v.2.1.1 (Int.toNat (IntKind.wrap .i64 (k.1 + (IntKind.wrap .i64 (IntKind.wrap .u64 (BitVec.toNat ((BitVec.ofInt (IntKind.bits .u64) r8_.1) &&& (BitVec.ofInt (IntKind.bits .u64) (IntKind.wrap .u64 (k.2.2 - (1 : Int))))))))))) 0)) (Int.toNat (IntKind.wrap .i64 (k.1 + (IntKind.wrap .i64 (IntKind.wrap .u64 (BitVec.toNat ((BitVec.ofInt (IntKind.bits .u64) r8_.1) &&& (BitVec.ofInt (IntKind.bits .u64) (IntKind.wrap .u64 (k.2.2 - (1 : Int))))))))))) (List.getD v.2.1.1 (Int.toNat v.1) 0)), v.2.1.2), r8_.2)))))
    (.l (.inr v.2.1))
noncomputable def L_slices_breakPatternsCmpFunc_Sint_0 (k : (Int) × ((Int) × (Int))) (v : (Int) × (((List Nat) × (List (List (Int)))) × (Int))) : Option ((List Nat) × (List (List (Int)))) := iter (fun v => (S_slices_breakPatternsCmpFunc_Sint_0 k v).ev) v
noncomputable def DL_slices_breakPatternsCmpFunc_Sint_0 : LD where
  head := { acts := [], S := { slots := [0, 1, 8, 9, 10, 11], sh := (.cons (.arr 64) (.cons (.dat (.int .i64)) (.cons (.dat (.int .i64)) (.cons (.box 9 0) (.cons (.dat (.int .u64)) (.cons (.dat (.int .i64)) .nil)))))), obs := [(64, .perm 22 3 (.int .i64)), (9, .cells (.cons (.dat (.int .u64)) .nil))] } }
  exits := [(0, { acts := [], S := { slots := [0], sh := (.cons (.arr 64) .nil), obs := [(64, .perm 22 3 (.int .i64))] } })]
  rets := { acts := [], S := { slots := [], sh := .nil, obs := [] } }
  K := (Int) × ((Int) × (Int))
  V := (Int) × (((List Nat) × (List (List (Int)))) × (Int))
  R := (List Nat) × (List (List (Int)))
  join := fun k v => (((), (k.1, (k.2.1, ((), (k.2.2, (v.1, ())))))), (v.2.1, ((v.2.2, ()), ())))
  sk := fun t => (t.1.2.1, (t.1.2.2.1, t.1.2.2.2.2.1))
  sv := fun t => (t.1.2.2.2.2.2.1, (t.2.1, t.2.2.1.1))
  step := S_slices_breakPatternsCmpFunc_Sint_0
  leaf := fun _ r => .l (.exit 0 (mkSt ({ slots := [0], sh := (.cons (.arr 64) .nil), obs := [(64, .perm 22 3 (.int .i64))] }) (((), ()), (r, ()))))
noncomputable def T_slices_breakPatternsCmpFunc_Sint (a2_ : Int) (a3_ : Int) (_a4_ : (HL [(.slice (.int .i64)), (.slice (.int .i64))] → Option (Int))) (a1_ : (List Nat) × (List (List (Int)))) : Tr ((List Nat) × (List (List (Int)))) :=
  .t (decide ((8 : Int) ≤ (IntKind.wrap .i64 (a3_ - a2_))))
    (.c (Int) (F_slices_nextPowerOfTwo (IntKind.wrap .i64 (a3_ - a2_))) fun r1_ =>
      .g (!decide ((4 : Int) = 0)) <|
      .c ((List Nat) × (List (List (Int)))) (L_slices_breakPatternsCmpFunc_Sint_0 (a2_, ((IntKind.wrap .i64 (a3_ - a2_)), r1_)) ((IntKind.wrap .i64 ((IntKind.wrap .i64 (a2_ + (IntKind.wrap .i64 ((IntKind.wrap .i64 (Int.tdiv (IntKind.wrap .i64 (a3_ - a2_)) (4 : Int))) * (2 : Int))))) - (1 : Int))), (a1_, (IntKind.wrap .u64 (IntKind.wrap .i64 (a3_ - a2_)))))) fun r10_ =>
      .l r10_)
    (.l a1_)
noncomputable def F_slices_breakPatternsCmpFunc_Sint (a2_ : Int) (a3_ : Int) (a4_ : (HL [(.slice (.int .i64)), (.slice (.int .i64))] → Option (Int))) (a1_ : (List Nat) × (List (List (Int)))) : Option ((List Nat) × (List (List (Int)))) := (T_slices_breakPatternsCmpFunc_Sint a2_ a3_ a4_ a1_).ev
noncomputable def A_slices_breakPatternsCmpFunc_Sint : Sh := (.cons (.arr 64) (.cons (.dat (.int .i64)) (.cons (.dat (.int .i64)) (.cons (.clo [(.slice (.int .i64)), (.slice (.int .i64))] (.int .i64)) .nil))))
noncomputable def I_slices_breakPatternsCmpFunc_Sint : List (Nat × OSh) := [(64, .perm 22 3 (.int .i64))]
noncomputable def K_slices_breakPatternsCmpFunc_Sint : RetK := { acts := [], res := [], sh := .nil, obs := [(64, .perm 22 3 (.int .i64))], pins := [(0, 0, 64)] }
noncomputable def D_slices_breakPatternsCmpFunc_Sint : FD where
  A := A_slices_breakPatternsCmpFunc_Sint
  ins := I_slices_breakPatternsCmpFunc_Sint
  lend := [.arg 0]
  R := (List Nat) × (List (List (Int)))
  F := fun x => F_slices_breakPatternsCmpFunc_Sint x.1.2.1 x.1.2.2.1 x.1.2.2.2.1 x.2.1
  emb := fun r => ([], [(64, .perm false 22 3 (.int .i64) r.1 r.2)])
noncomputable def E_slices_breakPatternsCmpFunc_Sint : Env := envOf [(220, D_slices_nextPowerOfTwo), (221, D_slices_xorshift_Next)]
noncomputable def Z_slices_breakPatternsCmpFunc_Sint : Nat → Nat → List Nat := fun _ _ => []
noncomputable def O_slices_breakPatternsCmpFunc_Sint : List (Nat × LD) := [(0, DL_slices_breakPatternsCmpFunc_Sint_0)]
noncomputable def C_slices_breakPatternsCmpFunc_Sint : Code := (f207.body).getD .skip
noncomputable def T_slices_order2CmpFunc_Sint (a1_ : List (List (Int))) (a2_ : Int) (a3_ : Int) (a5_ : (HL [(.slice (.int .i64)), (.slice (.int .i64))] → Option (Int))) (a4_ : Int) : Tr ((Int) × ((Int) × (Int))) :=
  .g (inR a3_ (List.length a1_)) <|
  .g (inR a2_ (List.length a1_)) <|
  .c (Int) (a5_ ((List.getD a1_ (Int.toNat a3_) ([] : List (Int))), ((List.getD a1_ (Int.toNat a2_) ([] : List (Int))), ()))) fun r1_ =>
  .t (decide (r1_ < (0 : Int)))
    (.l (a3_, (a2_, (IntKind.wrap .i64 (a4_ + (1 : Int))))))
    (.l (a2_, (a3_, a4_)))
noncomputable def F_slices_order2CmpFunc_Sint (a1_ : List (List (Int))) (a2_ : Int) (a3_ : Int) (a5_ : (HL [(.slice (.int .i64)), (.slice (.int .i64))] → Option (Int))) (a4_ : Int) : Option ((Int) × ((Int) × (Int))) := (T_slices_order2CmpFunc_Sint a1_ a2_ a3_ a5_ a4_).ev
noncomputable def A_slices_order2CmpFunc_Sint : Sh := (.cons (.dat (.slice (.slice (.int .i64)))) (.cons (.dat (.int .i64)) (.cons (.dat (.int .i64)) (.cons (.box 64 0) (.cons (.clo [(.slice (.int .i64)), (.slice (.int .i64))] (.int .i64)) .nil)))))
noncomputable def I_slices_order2CmpFunc_Sint : List (Nat × OSh) := [(64, .cells (.cons (.dat (.int .i64)) .nil))]
noncomputable def K_slices_order2CmpFunc_Sint : RetK := { acts := [], res := [.tmp 10, .tmp 11], sh := (.cons (.dat (.int .i64)) (.cons (.dat (.int .i64)) .nil)), obs := [(64, .cells (.cons (.dat (.int .i64)) .nil))], pins := [(3, 0, 64)] }
noncomputable def D_slices_order2CmpFunc_Sint : FD where
  A := A_slices_order2CmpFunc_Sint
  ins := I_slices_order2CmpFunc_Sint
  lend := [.arg 3]
  R := (Int) × ((Int) × (Int))
  F := fun x => F_slices_order2CmpFunc_Sint x.1.1 x.1.2.1 x.1.2.2.1 x.1.2.2.2.2.1 x.2.1.1
  emb := fun r => ([.dat (.int .i64) r.1, .dat (.int .i64) r.2.1], [(64, .cells [.dat (.int .i64) r.2.2])])
noncomputable def E_slices_order2CmpFunc_Sint : Env := envOf []
noncomputable def Z_slices_order2CmpFunc_Sint : Nat → Nat → List Nat := fun _ _ => []
noncomputable def O_slices_order2CmpFunc_Sint : List (Nat × LD) := []
noncomputable def C_slices_order2CmpFunc_Sint : Code := (f233.body).getD .skip
noncomputable def T_slices_medianCmpFunc_Sint (a1_ : List (List (Int))) (a2_ : Int) (a3_ : Int) (a4_ : Int) (a6_ : (HL [(.slice (.int .i64)), (.slice (.int .i64))] → Option (Int))) (a5_ : Int) : Tr ((Int) × (Int)) :=
  .c ((Int) × ((Int) × (Int))) (F_slices_order2CmpFunc_Sint a1_ a2_ a3_ a6_ a5_) fun r1_ =>
  .c ((Int) × ((Int) × (Int))) (F_slices_order2CmpFunc_Sint a1_ r1_.2.1 a4_ a6_ r1_.2.2) fun r2_ =>
  .c ((Int) × ((Int) × (Int))) (F_slices_order2CmpFunc_Sint a1_ r1_.1 r2_.1 a6_ r2_.2.2) fun r3_ =>
  .l (r3_.2.1, r3_.2.2)
noncomputable def F_slices_medianCmpFunc_Sint (a1_ : List (List (Int))) (a2_ : Int) (a3_ : Int) (a4_ : Int) (a6_ : (HL [(.slice (.int .i64)), (.slice (.int .i64))] → Option (Int))) (a5_ : Int) : Option ((Int) × (Int)) := (T_slices_medianCmpFunc_Sint a1_ a2_ a3_ a4_ a6_ a5_).ev
noncomputable def A_slices_medianCmpFunc_Sint : Sh := (.cons (.dat (.slice (.slice (.int .i64)))) (.cons (.dat (.int .i64)) (.cons (.dat (.int .i64)) (.cons (.dat (.int .i64)) (.cons (.box 64 0) (.cons (.clo [(.slice (.int .i64)), (.slice (.int .i64))] (.int .i64)) .nil))))))
noncomputable def I_slices_medianCmpFunc_Sint : List (Nat × OSh) := [(64, .cells (.cons (.dat (.int .i64)) .nil))]
noncomputable def K_slices_medianCmpFunc_Sint : RetK := { acts := [], res := [.tmp 12], sh := (.cons (.dat (.int .i64)) .nil), obs := [(64, .cells (.cons (.dat (.int .i64)) .nil))], pins := [(4, 0, 64)] }
noncomputable def D_slices_medianCmpFunc_Sint : FD where
  A := A_slices_medianCmpFunc_Sint
  ins := I_slices_medianCmpFunc_Sint
  lend := [.arg 4]
  R := (Int) × (Int)
  F := fun x => F_slices_medianCmpFunc_Sint x.1.1 x.1.2.1 x.1.2.2.1 x.1.2.2.2.1 x.1.2.2.2.2.2.1 x.2.1.1
  emb := fun r => ([.dat (.int .i64) r.1], [(64, .cells [.dat (.int .i64) r.2])])
noncomputable def E_slices_medianCmpFunc_Sint : Env := envOf [(233, D_slices_order2CmpFunc_Sint)]
noncomputable def Z_slices_medianCmpFunc_Sint : Nat → Nat → List Nat := fun _ _ => []
noncomputable def O_slices_medianCmpFunc_Sint : List (Nat × LD) := []
noncomputable def C_slices_medianCmpFunc_Sint : Code := (f226.body).getD .skip
noncomputable def T_slices_medianAdjacentCmpFunc_Sint (a1_ : List (List (Int))) (a2_ : Int) (a4_ : (HL [(.slice (.int .i64)), (.slice (.int .i64))] → Option (Int))) (a3_ : Int) : Tr ((Int) × (Int)) :=
  .c ((Int) × (Int)) (F_slices_medianCmpFunc_Sint a1_ (IntKind.wrap .i64 (a2_ - (1 : Int))) a2_ (IntKind.wrap .i64 (a2_ + (1 : Int))) a4_ a3_) fun r1_ =>
  .l (r1_.1, r1_.2)
noncomputable def F_slices_medianAdjacentCmpFunc_Sint (a1_ : List (List (Int))) (a2_ : Int) (a4_ : (HL [(.slice (.int .i64)), (.slice (.int .i64))] → Option (Int))) (a3_ : Int) : Option ((Int) × (Int)) := (T_slices_medianAdjacentCmpFunc_Sint a1_ a2_ a4_ a3_).ev
noncomputable def A_slices_medianAdjacentCmpFunc_Sint : Sh := (.cons (.dat (.slice (.slice (.int .i64)))) (.cons (.dat (.int .i64)) (.cons (.box 64 0) (.cons (.clo [(.slice (.int .i64)), (.slice (.int .i64))] (.int .i64)) .nil))))
noncomputable def I_slices_medianAdjacentCmpFunc_Sint : List (Nat × OSh) := [(64, .cells (.cons (.dat (.int .i64)) .nil))]
noncomputable def K_slices_medianAdjacentCmpFunc_Sint : RetK := { acts := [], res := [.tmp 8], sh := (.cons (.dat (.int .i64)) .nil), obs := [(64, .cells (.cons (.dat (.int .i64)) .nil))], pins := [(2, 0, 64)] }
noncomputable def D_slices_medianAdjacentCmpFunc_Sint : FD where
  A := A_slices_medianAdjacentCmpFunc_Sint
  ins := I_slices_medianAdjacentCmpFunc_Sint
  lend := [.arg 2]
  R := (Int) × (Int)
  F := fun x => F_slices_medianAdjacentCmpFunc_Sint x.1.1 x.1.2.1 x.1.2.2.2.1 x.2.1.1
  emb := fun r => ([.dat (.int .i64) r.1], [(64, .cells [.dat (.int .i64) r.2])])
noncomputable def E_slices_medianAdjacentCmpFunc_Sint : Env := envOf [(226, D_slices_medianCmpFunc_Sint)]
noncomputable def Z_slices_medianAdjacentCmpFunc_Sint : Nat → Nat → List Nat := fun _ _ => []
noncomputable def O_slices_medianAdjacentCmpFunc_Sint : List (Nat × LD) := []
noncomputable def C_slices_medianAdjacentCmpFunc_Sint : Code := (f225.body).getD .skip
noncomputable def T_slices_choosePivotCmpFunc_Sint (a1_ : List (List (Int))) (a2_ : Int) (a3_ : Int) (a4_ : (HL [(.slice (.int .i64)), (.slice (.int .i64))] → Option (Int))) : Tr ((Int) × (Int)) :=
  .g (!decide ((4 : Int) = 0)) <|
  .g (!decide ((4 : Int) = 0)) <|
  .g (!decide ((4 : Int) = 0)) <|
  .t (decide ((8 : Int) ≤ (IntKind.wrap .i64 (a3_ - a2_))))
    (.t (decide ((50 : Int) ≤ (IntKind.wrap .i64 (a3_ - a2_))))
        (.c ((Int) × (Int)) (F_slices_medianAdjacentCmpFunc_Sint a1_ (IntKind.wrap .i64 (a2_ + (IntKind.wrap .i64 ((IntKind.wrap .i64 (Int.tdiv (IntKind.wrap .i64 (a3_ - a2_)) (4 : Int))) * (1 : Int))))) a4_ (0 : Int)) fun r1_ =>
          .c ((Int) × (Int)) (F_slices_medianAdjacentCmpFunc_Sint a1_ (IntKind.wrap .i64 (a2_ + (IntKind.wrap .i64 ((IntKind.wrap .i64 (Int.tdiv (IntKind.wrap .i64 (a3_ - a2_)) (4 : Int))) * (2 : Int))))) a4_ r1_.2) fun r2_ =>
          .c ((Int) × (Int)) (F_slices_medianAdjacentCmpFunc_Sint a1_ (IntKind.wrap .i64 (a2_ + (IntKind.wrap .i64 ((IntKind.wrap .i64 (Int.tdiv (IntKind.wrap .i64 (a3_ - a2_)) (4 : Int))) * (3 : Int))))) a4_ r2_.2) fun r3_ =>
          .c ((Int) × (Int)) (F_slices_medianCmpFunc_Sint a1_ r1_.1 r2_.1 r3_.1 a4_ r3_.2) fun r4_ =>
          .t (r4_.2 == (0 : Int))
            (.l (r4_.1, (1 : Int)))
            (.t (r4_.2 == (12 : Int))
                (.l (r4_.1, (2 : Int)))
                (.l (r4_.1, (0 : Int)))))
        (.c ((Int) × (Int)) (F_slices_medianCmpFunc_Sint a1_ (IntKind.wrap .i64 (a2_ + (IntKind.wrap .i64 ((IntKind.wrap .i64 (Int.tdiv (IntKind.wrap .i64 (a3_ - a2_)) (4 : Int))) * (1 : Int))))) (IntKind.wrap .i64 (a2_ + (IntKind.wrap .i64 ((IntKind.wrap .i64 (Int.tdiv (IntKind.wrap .i64 (a3_ - a2_)) (4 : Int))) * (2 : Int))))) (IntKind.wrap .i64 (a2_ + (IntKind.wrap .i64 ((IntKind.wrap .i64 (Int.tdiv (IntKind.wrap .i64 (a3_ - a2_)) (4 : Int))) * (3 : Int))))) a4_ (0 : Int)) fun r5_ =>
          .t (r5_.2 == (0 : Int))
            (.l (r5_.1, (1 : Int)))
            (.t (r5_.2 == (12 : Int))
                (.l (r5_.1, (2 : Int)))
                (.l (r5_.1, (0 : Int))))))
    (.t ((0 : Int) == (0 : Int))
        (.l ((IntKind.wrap .i64 (a2_ + (IntKind.wrap .i64 ((IntKind.wrap .i64 (Int.tdiv (IntKind.wrap .i64 (a3_ - a2_)) (4 : Int))) * (2 : Int))))), (1 : Int)))
        (.t ((0 : Int) == (12 : Int))
            (.l ((IntKind.wrap .i64 (a2_ + (IntKind.wrap .i64 ((IntKind.wrap .i64 (Int.tdiv (IntKind.wrap .i64 (a3_ - a2_)) (4 : Int))) * (2 : Int))))), (2 : Int)))
            (.l ((IntKind.wrap .i64 (a2_ + (IntKind.wrap .i64 ((IntKind.wrap .i64 (Int.tdiv (IntKind.wrap .i64 (a3_ - a2_)) (4 : Int))) * (2 : Int))))), (0 : Int)))))
noncomputable def F_slices_choosePivotCmpFunc_Sint (a1_ : List (List (Int))) (a2_ : Int) (a3_ : Int) (a4_ : (HL [(.slice (.int .i64)), (.slice (.int .i64))] → Option (Int))) : Option ((Int) × (Int)) := (T_slices_choosePivotCmpFunc_Sint a1_ a2_ a3_ a4_).ev
noncomputable def A_slices_choosePivotCmpFunc_Sint : Sh := (.cons (.dat (.slice (.slice (.int .i64)))) (.cons (.dat (.int .i64)) (.cons (.dat (.int .i64)) (.cons (.clo [(.slice (.int .i64)), (.slice (.int .i64))] (.int .i64)) .nil))))
noncomputable def I_slices_choosePivotCmpFunc_Sint : List (Nat × OSh) := []
noncomputable def K_slices_choosePivotCmpFunc_Sint : RetK := { acts := [], res := [.tmp 8, .tmp 9], sh := (.cons (.dat (.int .i64)) (.cons (.dat (.int .i64)) .nil)), obs := [], pins := [] }
noncomputable def D_slices_choosePivotCmpFunc_Sint : FD where
  A := A_slices_choosePivotCmpFunc_Sint
  ins := I_slices_choosePivotCmpFunc_Sint
  lend := []
  R := (Int) × (Int)
  F := fun x => F_slices_choosePivotCmpFunc_Sint x.1.1 x.1.2.1 x.1.2.2.1 x.1.2.2.2.1
  emb := fun r => ([.dat (.int .i64) r.1, .dat (.int .i64) r.2], [])
noncomputable def E_slices_choosePivotCmpFunc_Sint : Env := envOf [(225, D_slices_medianAdjacentCmpFunc_Sint), (226, D_slices_medianCmpFunc_Sint)]
noncomputable def Z_slices_choosePivotCmpFunc_Sint : Nat → Nat → List Nat := fun _ _ => []
noncomputable def O_slices_choosePivotCmpFunc_Sint : List (Nat × LD) := []
noncomputable def C_slices_choosePivotCmpFunc_Sint : Code := (f208.body).getD .skip
noncomputable def S_slices_partitionCmpFunc_Sint_0 (k : (Int) × (((HL [(.slice (.int .i64)), (.slice (.int .i64))] → Option (Int))) × ((Int) × ((List Nat) × (List (List (Int))))))) (v : Int) : Tr ((Int) ⊕ (Int)) :=
  .t (decide (v ≤ k.2.2.1))
    (.g (inR v (List.length k.2.2.2.1)) <|
      .g (decide ((Int.toNat v) < List.length k.2.2.2.1) && decide ((List.getD k.2.2.2.1 (Int.toNat v) 0) < List.length k.2.2.2.2)) <|
      .g (inR k.1 (List.length k.2.2.2.1)) <|
      .g (decide ((Int.toNat k.1) < List.length k.2.2.2.1) && decide ((List.getD k.2.2.2.1 (Int.toNat k.1) 0) < List.length k.2.2.2.2)) <|
      .c (Int) (k.2.1 ((List.getD k.2.2.2.2 (List.getD k.2.2.2.1 (Int.toNat v) 0) ([] : List (Int))), ((List.getD k.2.2.2.2 (List.getD k.2.2.2.1 (Int.toNat k.1) 0) ([] : List (Int))), ()))) fun r6_ =>
      .t (decide (r6_ < (0 : Int)))
        (.l (.inl (IntKind.wrap .i64 (v + (1 : Int)))))
        (.l (.inr v)))
    (.l (.inr v))
noncomputable def L_slices_partitionCmpFunc_Sint_0 (k : (Int) × (((HL [(.slice (.int .i64)), (.slice (.int .i64))] → Option (Int))) × ((Int) × ((List Nat) × (List (List (Int))))))) (v : Int) : Option (Int) := iter (fun v => (S_slices_partitionCmpFunc_Sint_0 k v).ev) v
noncomputable def DL_slices_partitionCmpFunc_Sint_0 : LD where
  head := { acts := [], S := { slots := [0, 1, 4, 12, 13], sh := (.cons (.arr 64) (.cons (.dat (.int .i64)) (.cons (.clo [(.slice (.int .i64)), (.slice (.int .i64))] (.int .i64)) (.cons (.dat (.int .i64)) (.cons (.dat (.int .i64)) .nil))))), obs := [(64, .perm 22 3 (.int .i64))] } }
  exits := [(0, { acts := [], S := { slots := [0, 1, 4, 12, 13], sh := (.cons (.arr 64) (.cons (.dat (.int .i64)) (.cons (.clo [(.slice (.int .i64)), (.slice (.int .i64))] (.int .i64)) (.cons (.dat (.int .i64)) (.cons (.dat (.int .i64)) .nil))))), obs := [(64, .perm 22 3 (.int .i64))] } })]
  rets := { acts := [], S := { slots := [], sh := .nil, obs := [] } }
  K := (Int) × (((HL [(.slice (.int .i64)), (.slice (.int .i64))] → Option (Int))) × ((Int) × ((List Nat) × (List (List (Int))))))
  V := Int
  R := Int
  join := fun k v => (((), (k.1, (k.2.1, (v, (k.2.2.1, ()))))), (k.2.2.2, ()))
  sk := fun t => (t.1.2.1, (t.1.2.2.1, (t.1.2.2.2.2.1, t.2.1)))
  sv := fun t => t.1.2.2.2.1
  step := S_slices_partitionCmpFunc_Sint_0
  leaf := fun k r => .l (.exit 0 (mkSt ({ slots := [0, 1, 4, 12, 13], sh := (.cons (.arr 64) (.cons (.dat (.int .i64)) (.cons (.clo [(.slice (.int .i64)), (.slice (.int .i64))] (.int .i64)) (.cons (.dat (.int .i64)) (.cons (.dat (.int .i64)) .nil))))), obs := [(64, .perm 22 3 (.int .i64))] }) (((), (k.1, (k.2.1, (r, (k.2.2.1, ()))))), (k.2.2.2, ()))))
noncomputable def S_slices_partitionCmpFunc_Sint_2 (k : (Int) × (((HL [(.slice (.int .i64)), (.slice (.int .i64))] → Option (Int))) × ((Int) × ((List Nat) × (List (List (Int))))))) (v : Int) : Tr ((Int) ⊕ (Int)) :=
  .t (decide (k.2.2.1 ≤ v))
    (.g (inR v (List.length k.2.2.2.1)) <|
      .g (decide ((Int.toNat v) < List.length k.2.2.2.1) && decide ((List.getD k.2.2.2.1 (Int.toNat v) 0) < List.length k.2.2.2.2)) <|
      .g (inR k.1 (List.length k.2.2.2.1)) <|
      .g (decide ((Int.toNat k.1) < List.length k.2.2.2.1) && decide ((List.getD k.2.2.2.1 (Int.toNat k.1) 0) < List.length k.2.2.2.2)) <|
      .c (Int) (k.2.1 ((List.getD k.2.2.2.2 (List.getD k.2.2.2.1 (Int.toNat v) 0) ([] : List (Int))), ((List.getD k.2.2.2.2 (List.getD k.2.2.2.1 (Int.toNat k.1) 0) ([] : List (Int))), ()))) fun r18_ =>
      .t (!(decide (r18_ < (0 : Int))))
        (.l (.inl (IntKind.wrap .i64 (v - (1 : Int)))))
        (.l (.inr v)))
    (.l (.inr v))
noncomputable def L_slices_partitionCmpFunc_Sint_2 (k : (Int) × (((HL [(.slice (.int .i64)), (.slice (.int .i64))] → Option (Int))) × ((Int) × ((List Nat) × (List (List (Int))))))) (v : Int) : Option (Int) := iter (fun v => (S_slices_partitionCmpFunc_Sint_2 k v).ev) v
noncomputable def DL_slices_partitionCmpFunc_Sint_2 : LD where
  head := { acts := [], S := { slots := [0, 1, 4, 12, 13], sh := (.cons (.arr 64) (.cons (.dat (.int .i64)) (.cons (.clo [(.slice (.int .i64)), (.slice (.int .i64))] (.int .i64)) (.cons (.dat (.int .i64)) (.cons (.dat (.int .i64)) .nil))))), obs := [(64, .perm 22 3 (.int .i64))] } }
  exits := [(2, { acts := [], S := { slots := [0, 1, 4, 12, 13], sh := (.cons (.arr 64) (.cons (.dat (.int .i64)) (.cons (.clo [(.slice (.int .i64)), (.slice (.int .i64))] (.int .i64)) (.cons (.dat (.int .i64)) (.cons (.dat (.int .i64)) .nil))))), obs := [(64, .perm 22 3 (.int .i64))] } })]
  rets := { acts := [], S := { slots := [], sh := .nil, obs := [] } }
  K := (Int) × (((HL [(.slice (.int .i64)), (.slice (.int .i64))] → Option (Int))) × ((Int) × ((List Nat) × (List (List (Int))))))
  V := Int
  R := Int
  join := fun k v => (((), (k.1, (k.2.1, (k.2.2.1, (v, ()))))), (k.2.2.2, ()))
  sk := fun t => (t.1.2.1, (t.1.2.2.1, (t.1.2.2.2.1, t.2.1)))
  sv := fun t => t.1.2.2.2.2.1
  step := S_slices_partitionCmpFunc_Sint_2
  leaf := fun k r => .l (.exit 2 (mkSt ({ slots := [0, 1, 4, 12, 13], sh := (.cons (.arr 64) (.cons (.dat (.int .i64)) (.cons (.clo [(.slice (.int .i64)), (.slice (.int .i64))] (.int .i64)) (.cons (.dat (.int .i64)) (.cons (.dat (.int .i64)) .nil))))), obs := [(64, .perm 22 3 (.int .i64))] }) (((), (k.1, (k.2.1, (k.2.2.1, (r, ()))))), (k.2.2.2, ()))))
noncomputable def S_slices_partitionCmpFunc_Sint_6 (k : (Int) × (((HL [(.slice (.int .i64)), (.slice (.int .i64))] → Option (Int))) × ((Int) × ((List Nat) × (List (List (Int))))))) (v : Int) : Tr ((Int) ⊕ (Int)) :=
  .t (decide (v ≤ k.2.2.1))
    (.g (inR v (List.length k.2.2.2.1)) <|
      .g (decide ((Int.toNat v) < List.length k.2.2.2.1) && decide ((List.getD k.2.2.2.1 (Int.toNat v) 0) < List.length k.2.2.2.2)) <|
      .g (inR k.1 (List.length k.2.2.2.1)) <|
      .g (decide ((Int.toNat k.1) < List.length k.2.2.2.1) && decide ((List.getD k.2.2.2.1 (Int.toNat k.1) 0) < List.length k.2.2.2.2)) <|
      .c (Int) (k.2.1 ((List.getD k.2.2.2.2 (List.getD k.2.2.2.1 (Int.toNat v) 0) ([] : List (Int))), ((List.getD k.2.2.2.2 (List.getD k.2.2.2.1 (Int.toNat k.1) 0) ([] : List (Int))), ()))) fun r35_ =>
      .t (decide (r35_ < (0 : Int)))
        (.l (.inl (IntKind.wrap .i64 (v + (1 : Int)))))
        (.l (.inr v)))
    (.l (.inr v))
noncomputable def L_slices_partitionCmpFunc_Sint_6 (k : (Int) × (((HL [(.slice (.int .i64)), (.slice (.int .i64))] → Option (Int))) × ((Int) × ((List Nat) × (List (List (Int))))))) (v : Int) : Option (Int) := iter (fun v => (S_slices_partitionCmpFunc_Sint_6 k v).ev) v
noncomputable def DL_slices_partitionCmpFunc_Sint_6 : LD where
  head := { acts := [], S := { slots := [0, 1, 4, 12, 13], sh := (.cons (.arr 64) (.cons (.dat (.int .i64)) (.cons (.clo [(.slice (.int .i64)), (.slice (.int .i64))] (.int .i64)) (.cons (.dat (.int .i64)) (.cons (.dat (.int .i64)) .nil))))), obs := [(64, .perm 22 3 (.int .i64))] } }
  exits := [(6, { acts := [], S := { slots := [0, 1, 4, 12, 13], sh := (.cons (.arr 64) (.cons (.dat (.int .i64)) (.cons (.clo [(.slice (.int .i64)), (.slice (.int .i64))] (.int .i64)) (.cons (.dat (.int .i64)) (.cons (.dat (.int .i64)) .nil))))), obs := [(64, .perm 22 3 (.int .i64))] } })]
  rets := { acts := [], S := { slots := [], sh := .nil, obs := [] } }
  K := (Int) × (((HL [(.slice (.int .i64)), (.slice (.int .i64))] → Option (Int))) × ((Int) × ((List Nat) × (List (List (Int))))))
  V := Int
  R := Int
  join := fun k v => (((), (k.1, (k.2.1, (v, (k.2.2.1, ()))))), (k.2.2.2, ()))
  sk := fun t => (t.1.2.1, (t.1.2.2.1, (t.1.2.2.2.2.1, t.2.1)))
  sv := fun t => t.1.2.2.2.1
  step := S_slices_partitionCmpFunc_Sint_6
  leaf := fun k r => .l (.exit 6 (mkSt ({ slots := [0, 1, 4, 12, 13], sh := (.cons (.arr 64) (.cons (.dat (.int .i64)) (.cons (.clo [(.slice (.int .i64)), (.slice (.int .i64))] (.int .i64)) (.cons (.dat (.int .i64)) (.cons (.dat (.int .i64)) .nil))))), obs := [(64, .perm 22 3 (.int .i64))] }) (((), (k.1, (k.2.1, (r, (k.2.2.1, ()))))), (k.2.2.2, ()))))
noncomputable def S_slices_partitionCmpFunc_Sint_8 (k : (Int) × (((HL [(.slice (.int .i64)), (.slice (.int .i64))] → Option (Int))) × ((Int) × ((List Nat) × (List (List (Int))))))) (v : Int) : Tr ((Int) ⊕ (Int)) :=
  .t (decide (k.2.2.1 ≤ v))
    (.g (inR v (List.length k.2.2.2.1)) <|
      .g (decide ((Int.toNat v) < List.length k.2.2.2.1) && decide ((List.getD k.2.2.2.1 (Int.toNat v) 0) < List.length k.2.2.2.2)) <|
      .g (inR k.1 (List.length k.2.2.2.1)) <|
      .g (decide ((Int.toNat k.1) < List.length k.2.2.2.1) && decide ((List.getD k.2.2.2.1 (Int.toNat k.1) 0) < List.length k.2.2.2.2)) <|
      .c (Int) (k.2.1 ((List.getD k.2.2.2.2 (List.getD k.2.2.2.1 (Int.toNat v) 0) ([] : List (Int))), ((List.getD k.2.2.2.2 (List.getD k.2.2.2.1 (Int.toNat k.1) 0) ([] : List (Int))), ()))) fun r47_ =>
      .t (!(decide (r47_ < (0 : Int))))
        (.l (.inl (IntKind.wrap .i64 (v - (1 : Int)))))
        (.l (.inr v)))
    (.l (.inr v))
noncomputable def L_slices_partitionCmpFunc_Sint_8 (k : (Int) × (((HL [(.slice (.int .i64)), (.slice (.int .i64))] → Option (Int))) × ((Int) × ((List Nat) × (List (List (Int))))))) (v : Int) : Option (Int) := iter (fun v => (S_slices_partitionCmpFunc_Sint_8 k v).ev) v
noncomputable def DL_slices_partitionCmpFunc_Sint_8 : LD where
  head := { acts := [], S := { slots := [0, 1, 4, 12, 13], sh := (.cons (.arr 64) (.cons (.dat (.int .i64)) (.cons (.clo [(.slice (.int .i64)), (.slice (.int .i64))] (.int .i64)) (.cons (.dat (.int .i64)) (.cons (.dat (.int .i64)) .nil))))), obs := [(64, .perm 22 3 (.int .i64))] } }
  exits := [(8, { acts := [], S := { slots := [0, 1, 4, 12, 13], sh := (.cons (.arr 64) (.cons (.dat (.int .i64)) (.cons (.clo [(.slice (.int .i64)), (.slice (.int .i64))] (.int .i64)) (.cons (.dat (.int .i64)) (.cons (.dat (.int .i64)) .nil))))), obs := [(64, .perm 22 3 (.int .i64))] } })]
  rets := { acts := [], S := { slots := [], sh := .nil, obs := [] } }
  K := (Int) × (((HL [(.slice (.int .i64)), (.slice (.int .i64))] → Option (Int))) × ((Int) × ((List Nat) × (List (List (Int))))))
  V := Int
  R := Int
  join := fun k v => (((), (k.1, (k.2.1, (k.2.2.1, (v, ()))))), (k.2.2.2, ()))
  sk := fun t => (t.1.2.1, (t.1.2.2.1, (t.1.2.2.2.1, t.2.1)))
  sv := fun t => t.1.2.2.2.2.1
  step := S_slices_partitionCmpFunc_Sint_8
  leaf := fun k r => .l (.exit 8 (mkSt ({ slots := [0, 1, 4, 12, 13], sh := (.cons (.arr 64) (.cons (.dat (.int .i64)) (.cons (.clo [(.slice (.int .i64)), (.slice (.int .i64))] (.int .i64)) (.cons (.dat (.int .i64)) (.cons (.dat (.int .i64)) .nil))))), obs := [(64, .perm 22 3 (.int .i64))] }) (((), (k.1, (k.2.1, (k.2.2.1, (r, ()))))), (k.2.2.2, ()))))
noncomputable def S_slices_partitionCmpFunc_Sint_4 (k : (Int) × ((HL [(.slice (.int .i64)), (.slice (.int .i64))] → Option (Int)))) (v : (Int) × ((Int) × ((List Nat) × (List (List (Int)))))) : Tr (((Int) × ((Int) × ((List Nat) × (List (List (Int)))))) ⊕ ((Int) × ((List Nat) × (List (List (Int)))))) :=
  .c (Int) (L_slices_partitionCmpFunc_Sint_6 (k.1, (k.2, (v.2.1, v.2.2))) v.1) fun r41_ =>
  .c (Int) (L_slices_partitionCmpFunc_Sint_8 (k.1, (k.2, (r41_, v.2.2))) v.2.1) fun r53_ =>
  .t (decide (r53_ < r41_))
    (.l (.inr (r53_, v.2.2)))
    (.g (inR r53_ (List.length v.2.2.1)) <|
      .g (decide ((Int.toNat r53_) < List.length v.2.2.1) && decide ((List.getD v.2.2.1 (Int.toNat r53_) 0) < List.length v.2.2.2)) <|
      .g (inR r41_ (List.length v.2.2.1)) <|
      .g (decide ((Int.toNat r41_) < List.length v.2.2.1) && decide ((List.getD v.2.2.1 (Int.toNat r41_) 0) < List.length v.2.2.2)) <|
      .g (inR r41_ (List.length v.2.2.1)) <|
      .g (decide ((Int.toNat r41_) < List.length v.2.2.1)) <|
      .g (inR r53_ (List.length (List.set v.2.2.1 (Int.toNat r41_) (List.getD v.2.2.1 (Int.toNat r53_) 0)))) <|
      .g (decide ((Int.toNat r53_) < List.length (List.set v.2.2.1 (Int.toNat r41_) (List.getD v.2.2.1 (Int.toNat r53_) 0)))) <|
      .l (.inl ((IntKind.wrap .i64 (r41_ + (1 : Int))), ((IntKind.wrap .i64 (r53_ - (1 : Int))), ((List.set (List.set v.2.2.1 (Int.toNat r41_) (List.getD v.2.2.1 (Int.toNat r53_) 0)) (Int.toNat r53_) (List.getD v.2.2.1 (Int.toNat r41_) 0)), v.2.2.2)))))
noncomputable def L_slices_partitionCmpFunc_Sint_4 (k : (Int) × ((HL [(.slice (.int .i64)), (.slice (.int .i64))] → Option (Int)))) (v : (Int) × ((Int) × ((List Nat) × (List (List (Int)))))) : Option ((Int) × ((List Nat) × (List (List (Int))))) := iter (fun v => (S_slices_partitionCmpFunc_Sint_4 k v).ev) v
noncomputable def DL_slices_partitionCmpFunc_Sint_4 : LD where
  head := { acts := [], S := { slots := [0, 1, 4, 12, 13], sh := (.cons (.arr 64) (.cons (.dat (.int .i64)) (.cons (.clo [(.slice (.int .i64)), (.slice (.int .i64))] (.int .i64)) (.cons (.dat (.int .i64)) (.cons (.dat (.int .i64)) .nil))))), obs := [(64, .perm 22 3 (.int .i64))] } }
  exits := [(4, { acts := [], S := { slots := [0, 1, 13], sh := (.cons (.arr 64) (.cons (.dat (.int .i64)) (.cons (.dat (.int .i64)) .nil))), obs := [(64, .perm 22 3 (.int .i64))] } })]
  rets := { acts := [], S := { slots := [], sh := .nil, obs := [] } }
  K := (Int) × ((HL [(.slice (.int .i64)), (.slice (.int .i64))] → Option (Int)))
  V := (Int) × ((Int) × ((List Nat) × (List (List (Int)))))
  R := (Int) × ((List Nat) × (List (List (Int))))
  join := fun k v => (((), (k.1, (k.2, (v.1, (v.2.1, ()))))), (v.2.2, ()))
  sk := fun t => (t.1.2.1, t.1.2.2.1)
  sv := fun t => (t.1.2.2.2.1, (t.1.2.2.2.2.1, t.2.1))
  step := S_slices_partitionCmpFunc_Sint_4
  leaf := fun k r => .l (.exit 4 (mkSt ({ slots := [0, 1, 13], sh := (.cons (.arr 64) (.cons (.dat (.int .i64)) (.cons (.dat (.int .i64)) .nil))), obs := [(64, .perm 22 3 (.int .i64))] }) (((), (k.1, (r.1, ()))), (r.2, ()))))
noncomputable def T_slices_partitionCmpFunc_Sint (a2_ : Int) (a3_ : Int) (a4_ : Int) (a5_ : (HL [(.slice (.int .i64)), (.slice (.int .i64))] → Option (Int))) (a1_ : (List Nat) × (List (List (Int)))) : Tr ((Int) × ((Bool) × ((List Nat) × (List (List (Int)))))) :=
  .g (inR a4_ (List.length a1_.1)) <|
  .g (decide ((Int.toNat a4_) < List.length a1_.1) && decide ((List.getD a1_.1 (Int.toNat a4_) 0) < List.length a1_.2)) <|
  .g (inR a2_ (List.length a1_.1)) <|
  .g (decide ((Int.toNat a2_) < List.length a1_.1) && decide ((List.getD a1_.1 (Int.toNat a2_) 0) < List.length a1_.2)) <|
  .g (inR a2_ (List.length a1_.1)) <|
  .g (decide ((Int.toNat a2_) < List.length a1_.1)) <|
  .g (inR a4_ (List.length (List.set a1_.1 (Int.toNat a2_) (List.getD a1_.1 (Int.toNat a4_) 0)))) <|
  .g (decide ((Int.toNat a4_) < List.length (List.set a1_.1 (Int.toNat a2_) (List.getD a1_.1 (Int.toNat a4_) 0)))) <|
  .c (Int) (L_slices_partitionCmpFunc_Sint_0 (a2_, (a5_, ((IntKind.wrap .i64 (a3_ - (1 : Int))), ((List.set (List.set a1_.1 (Int.toNat a2_) (List.getD a1_.1 (Int.toNat a4_) 0)) (Int.toNat a4_) (List.getD a1_.1 (Int.toNat a2_) 0)), a1_.2)))) (IntKind.wrap .i64 (a2_ + (1 : Int)))) fun r12_ =>
  .c (Int) (L_slices_partitionCmpFunc_Sint_2 (a2_, (a5_, (r12_, ((List.set (List.set a1_.1 (Int.toNat a2_) (List.getD a1_.1 (Int.toNat a4_) 0)) (Int.toNat a4_) (List.getD a1_.1 (Int.toNat a2_) 0)), a1_.2)))) (IntKind.wrap .i64 (a3_ - (1 : Int)))) fun r24_ =>
  .t (decide (r24_ < r12_))
    (.g (inR a2_ (List.length (List.set (List.set a1_.1 (Int.toNat a2_) (List.getD a1_.1 (Int.toNat a4_) 0)) (Int.toNat a4_) (List.getD a1_.1 (Int.toNat a2_) 0)))) <|
      .g (decide ((Int.toNat a2_) < List.length (List.set (List.set a1_.1 (Int.toNat a2_) (List.getD a1_.1 (Int.toNat a4_) 0)) (Int.toNat a4_) (List.getD a1_.1 (Int.toNat a2_) 0))) && decide ((List.getD (List.set (List.set a1_.1 (Int.toNat a2_) (List.getD a1_.1 (Int.toNat a4_) 0)) (Int.toNat a4_) (List.getD a1_.1 (Int.toNat a2_) 0)) (Int.toNat a2_) 0) < List.length a1_.2)) <|
      .g (inR r24_ (List.length (List.set (List.set a1_.1 (Int.toNat a2_) (List.getD a1_.1 (Int.toNat a4_) 0)) (Int.toNat a4_) (List.getD a1_.1 (Int.toNat a2_) 0)))) <|
      .g (decide ((Int.toNat r24_) < List.length (List.set (List.set a1_.1 (Int.toNat a2_) (List.getD a1_.1 (Int.toNat a4_) 0)) (Int.toNat a4_) (List.getD a1_.1 (Int.toNat a2_) 0))) && decide ((List.getD (List.set (List.set a1_.1 (Int.toNat a2_) (List.getD a1_.1 (Int.toNat a4_) 0)) (Int.toNat a4_) (List.getD a1_.1 (Int.toNat a2_) 0)) (Int.toNat r24_) 0) < List.length a1_.2)) <|
      .g (inR r24_ (List.length (List.set (List.set a1_.1 (Int.toNat a2_) (List.getD a1_.1 (Int.toNat a4_) 0)) (Int.toNat a4_) (List.getD a1_.1 (Int.toNat a2_) 0)))) <|
      .g (decide ((Int.toNat r24_) < List.length (List.set (List.set a1_.1 (Int.toNat a2_) (List.getD a1_.1 (Int.toNat a4_) 0)) (Int.toNat a4_) (List.getD a1_.1 (Int.toNat a2_) 0)))) <|
      .g (inR a2_ (List.length (List.set (List.set (List.set a1_.1 (Int.toNat a2_) (List.getD a1_.1 (Int.toNat a4_) 0)) (Int.toNat a4_) (List.getD a1_.1 (Int.toNat a2_) 0)) (Int.toNat r24_) (List.getD (List.set (List.set a1_.1 (Int.toNat a2_) (List.getD a1_.1 (Int.toNat a4_) 0)) (Int.toNat a4_) (List.getD a1_.1 (Int.toNat a2_) 0)) (Int.toNat a2_) 0)))) <|
      .g (decide ((Int.toNat a2_) < List.length (List.set (List.set (List.set a1_.1 (Int.toNat a2_) (List.getD a1_.1 (Int.toNat a4_) 0)) (Int.toNat a4_) (List.getD a1_.1 (Int.toNat a2_) 0)) (Int.toNat r24_) (List.getD (List.set (List.set a1_.1 (Int.toNat a2_) (List.getD a1_.1 (Int.toNat a4_) 0)) (Int.toNat a4_) (List.getD a1_.1 (Int.toNat a2_) 0)) (Int.toNat a2_) 0)))) <|
      .l (r24_, (true, ((List.set (List.set (List.set (List.set a1_.1 (Int.toNat a2_) (List.getD a1_.1 (Int.toNat a4_) 0)) (Int.toNat a4_) (List.getD a1_.1 (Int.toNat a2_) 0)) (Int.toNat r24_) (List.getD (List.set (List.set a1_.1 (Int.toNat a2_) (List.getD a1_.1 (Int.toNat a4_) 0)) (Int.toNat a4_) (List.getD a1_.1 (Int.toNat a2_) 0)) (Int.toNat a2_) 0)) (Int.toNat a2_) (List.getD (List.set (List.set a1_.1 (Int.toNat a2_) (List.getD a1_.1 (Int.toNat a4_) 0)) (Int.toNat a4_) (List.getD a1_.1 (Int.toNat a2_) 0)) (Int.toNat r24_) 0)), a1_.2))))
    (.g (inR r24_ (List.length (List.set (List.set a1_.1 (Int.toNat a2_) (List.getD a1_.1 (Int.toNat a4_) 0)) (Int.toNat a4_) (List.getD a1_.1 (Int.toNat a2_) 0)))) <|
      .g (decide ((Int.toNat r24_) < List.length (List.set (List.set a1_.1 (Int.toNat a2_) (List.getD a1_.1 (Int.toNat a4_) 0)) (Int.toNat a4_) (List.getD a1_.1 (Int.toNat a2_) 0))) && decide ((List.getD (List.set (List.set a1_.1 (Int.toNat a2_) (List.getD a1_.1 (Int.toNat a4_) 0)) (Int.toNat a4_) (List.getD a1_.1 (Int.toNat a2_) 0)) (Int.toNat r24_) 0) < List.length a1_.2)) <|
      .g (inR r12_ (List.length (List.set (List.set a1_.1 (Int.toNat a2_) (List.getD a1_.1 (Int.toNat a4_) 0)) (Int.toNat a4_) (List.getD a1_.1 (Int.toNat a2_) 0)))) <|
      .g (decide ((Int.toNat r12_) < List.length (List.set (List.set a1_.1 (Int.toNat a2_) (List.getD a1_.1 (Int.toNat a4_) 0)) (Int.toNat a4_) (List.getD a1_.1 (Int.toNat a2_) 0))) && decide ((List.getD (List.set (List.set a1_.1 (Int.toNat a2_) (List.getD a1_.1 (Int.toNat a4_) 0)) (Int.toNat a4_) (List.getD a1_.1 (Int.toNat a2_) 0)) (Int.toNat r12_) 0) < List.length a1_.2)) <|
      .g (inR r12_ (List.length (List.set (List.set a1_.1 (Int.toNat a2_) (List.getD a1_.1 (Int.toNat a4_) 0)) (Int.toNat a4_) (List.getD a1_.1 (Int.toNat a2_) 0)))) <|
      .g (decide ((Int.toNat r12_) < List.length (List.set (List.set a1_.1 (Int.toNat a2_) (List.getD a1_.1 (Int.toNat a4_) 0)) (Int.toNat a4_) (List.getD a1_.1 (Int.toNat a2_) 0)))) <|
      .g (inR r24_ (List.length (List.set (List.set (List.set a1_.1 (Int.toNat a2_) (List.getD a1_.1 (Int.toNat a4_) 0)) (Int.toNat a4_) (List.getD a1_.1 (Int.toNat a2_) 0)) (Int.toNat r12_) (List.getD (List.set (List.set a1_.1 (Int.toNat a2_) (List.getD a1_.1 (Int.toNat a4_) 0)) (Int.toNat a4_) (List.getD a1_.1 (Int.toNat a2_) 0)) (Int.toNat r24_) 0)))) <|
      .g (decide ((Int.toNat r24_) < List.length (List.set (List.set (List.set a1_.1 (Int.toNat a2_) (List.getD a1_.1 (Int.toNat a4_) 0)) (Int.toNat a4_) (List.getD a1_.1 (Int.toNat a2_) 0)) (Int.toNat r12_) (List.getD (List.set (List.set a1_.1 (Int.toNat a2_) (List.getD a1_.1 (Int.toNat a4_) 0)) (Int.toNat a4_) (List.getD a1_.1 (Int.toNat a2_) 0)) (Int.toNat r24_) 0)))) <|
      .c ((Int) × ((List Nat) × (List (List (Int))))) (L_slices_partitionCmpFunc_Sint_4 (a2_, a5_) ((IntKind.wrap .i64 (r12_ + (1 : Int))), ((IntKind.wrap .i64 (r24_ - (1 : Int))), ((List.set (List.set (List.set (List.set a1_.1 (Int.toNat a2_) (List.getD a1_.1 (Int.toNat a4_) 0)) (Int.toNat a4_) (List.getD a1_.1 (Int.toNat a2_) 0)) (Int.toNat r12_) (List.getD (List.set (List.set a1_.1 (Int.toNat a2_) (List.getD a1_.1 (Int.toNat a4_) 0)) (Int.toNat a4_) (List.getD a1_.1 (Int.toNat a2_) 0)) (Int.toNat r24_) 0)) (Int.toNat r24_) (List.getD (List.set (List.set a1_.1 (Int.toNat a2_) (List.getD a1_.1 (Int.toNat a4_) 0)) (Int.toNat a4_) (List.getD a1_.1 (Int.toNat a2_) 0)) (Int.toNat r12_) 0)), a1_.2)))) fun r57_ =>
      .g (inR a2_ (List.length r57_.2.1)) <|
      .g (decide ((Int.toNat a2_) < List.length r57_.2.1) && decide ((List.getD r57_.2.1 (Int.toNat a2_) 0) < List.length r57_.2.2)) <|
      .g (inR r57_.1 (List.length r57_.2.1)) <|
      .g (decide ((Int.toNat r57_.1) < List.length r57_.2.1) && decide ((List.getD r57_.2.1 (Int.toNat r57_.1) 0) < List.length r57_.2.2)) <|
      .g (inR r57_.1 (List.length r57_.2.1)) <|
      .g (decide ((Int.toNat r57_.1) < List.length r57_.2.1)) <|
      .g (inR a2_ (List.length (List.set r57_.2.1 (Int.toNat r57_.1) (List.getD r57_.2.1 (Int.toNat a2_) 0)))) <|
      .g (decide ((Int.toNat a2_) < List.length (List.set r57_.2.1 (Int.toNat r57_.1) (List.getD r57_.2.1 (Int.toNat a2_) 0)))) <|
      .l (r57_.1, (false, ((List.set (List.set r57_.2.1 (Int.toNat r57_.1) (List.getD r57_.2.1 (Int.toNat a2_) 0)) (Int.toNat a2_) (List.getD r57_.2.1 (Int.toNat r57_.1) 0)), r57_.2.2))))
noncomputable def F_slices_partitionCmpFunc_Sint (a2_ : Int) (a3_ : Int) (a4_ : Int) (a5_ : (HL [(.slice (.int .i64)), (.slice (.int .i64))] → Option (Int))) (a1_ : (List Nat) × (List (List (Int)))) : Option ((Int) × ((Bool) × ((List Nat) × (List (List (Int)))))) := (T_slices_partitionCmpFunc_Sint a2_ a3_ a4_ a5_ a1_).ev
noncomputable def A_slices_partitionCmpFunc_Sint : Sh := (.cons (.arr 64) (.cons (.dat (.int .i64)) (.cons (.dat (.int .i64)) (.cons (.dat (.int .i64)) (.cons (.clo [(.slice (.int .i64)), (.slice (.int .i64))] (.int .i64)) .nil)))))
noncomputable def I_slices_partitionCmpFunc_Sint : List (Nat × OSh) := [(64, .perm 22 3 (.int .i64))]
noncomputable def K_slices_partitionCmpFunc_Sint : RetK := { acts := [], res := [.tmp 10, .tmp 11], sh := (.cons (.dat (.int .i64)) (.cons (.dat .bool) .nil)), obs := [(64, .perm 22 3 (.int .i64))], pins := [(0, 0, 64)] }
noncomputable def D_slices_partitionCmpFunc_Sint : FD where
  A := A_slices_partitionCmpFunc_Sint
  ins := I_slices_partitionCmpFunc_Sint
  lend := [.arg 0]
  R := (Int) × ((Bool) × ((List Nat) × (List (List (Int)))))
  F := fun x => F_slices_partitionCmpFunc_Sint x.1.2.1 x.1.2.2.1 x.1.2.2.2.1 x.1.2.2.2.2.1 x.2.1
  emb := fun r => ([.dat (.int .i64) r.1, .dat .bool r.2.1], [(64, .perm false 22 3 (.int .i64) r.2.2.1 r.2.2.2)])
noncomputable def E_slices_partitionCmpFunc_Sint : Env := envOf []
noncomputable def Z_slices_partitionCmpFunc_Sint : Nat → Nat → List Nat := fun _ _ => []
noncomputable def O_slices_partitionCmpFunc_Sint : List (Nat × LD) := [(0, DL_slices_partitionCmpFunc_Sint_0), (2, DL_slices_partitionCmpFunc_Sint_2), (6, DL_slices_partitionCmpFunc_Sint_6), (8, DL_slices_partitionCmpFunc_Sint_8), (4, DL_slices_partitionCmpFunc_Sint_4)]
noncomputable def C_slices_partitionCmpFunc_Sint : Code := (f212.body).getD .skip
noncomputable def S_slices_pdqsortCmpFunc_Sint_0 (rec_ : (Int) → (Int) → (Int) → ((HL [(.slice (.int .i64)), (.slice (.int .i64))] → Option (Int))) → ((List Nat) × (List (List (Int)))) → Option ((List Nat) × (List (List (Int))))) (k : (HL [(.slice (.int .i64)), (.slice (.int .i64))] → Option (Int))) (v : (Int) × ((Int) × ((Int) × ((Bool) × ((Bool) × ((List Nat) × (List (List (Int))))))))) : Tr (((Int) × ((Int) × ((Int) × ((Bool) × ((Bool) × ((List Nat) × (List (List (Int))))))))) ⊕ ((List Nat) × (List (List (Int))))) :=
  .t (decide ((IntKind.wrap .i64 (v.2.1 - v.1)) ≤ (12 : Int)))
    (.c ((List Nat) × (List (List (Int)))) (F_slices_insertionSortCmpFunc_Sint v.1 v.2.1 k v.2.2.2.2.2) fun r8_ =>
      .l (.inr r8_))
    (.t (v.2.2.1 == (0 : Int))
        (.f)
        (.t (!v.2.2.2.1)
            (.c ((List Nat) × (List (List (Int)))) (F_slices_breakPatternsCmpFunc_Sint v.1 v.2.1 k v.2.2.2.2.2) fun r9_ =>
              .c ((Int) × (Int)) (F_slices_choosePivotCmpFunc_Sint (permL r9_.1 r9_.2) v.1 v.2.1 k) fun r10_ =>
              .t (r10_.2 == (2 : Int))
                (.f)
                (.t v.2.2.2.1
                    (.t v.2.2.2.2.1
                        (.t (r10_.2 == (1 : Int))
                            (.f)
                            (.t (decide ((0 : Int) < v.1))
                                (.g (inR (IntKind.wrap .i64 (v.1 - (1 : Int))) (List.length r9_.1)) <|
                                  .g (decide ((Int.toNat (IntKind.wrap .i64 (v.1 - (1 : Int)))) < List.length r9_.1) && decide ((List.getD r9_.1 (Int.toNat (IntKind.wrap .i64 (v.1 - (1 : Int)))) 0) < List.length r9_.2)) <|
                                  .g (inR r10_.1 (List.length r9_.1)) <|
                                  .g (decide ((Int.toNat r10_.1) < List.length r9_.1) && decide ((List.getD r9_.1 (Int.toNat r10_.1) 0) < List.length r9_.2)) <|
                                  .c (Int) (k ((List.getD r9_.2 (List.getD r9_.1 (Int.toNat (IntKind.wrap .i64 (v.1 - (1 : Int)))) 0) ([] : List (Int))), ((List.getD r9_.2 (List.getD r9_.1 (Int.toNat r10_.1) 0) ([] : List (Int))), ()))) fun r11_ =>
                                  .t (!(decide (r11_ < (0 : Int))))
                                    (.f)
                                    (.c ((Int) × ((Bool) × ((List Nat) × (List (List (Int)))))) (F_slices_partitionCmpFunc_Sint v.1 v.2.1 r10_.1 k r9_) fun r12_ =>
                                      .g (!decide ((8 : Int) = 0)) <|
                                      .t (decide ((IntKind.wrap .i64 (r12_.1 - v.1)) < (IntKind.wrap .i64 (v.2.1 - r12_.1))))
                                        (.c ((List Nat) × (List (List (Int)))) (rec_ v.1 r12_.1 (IntKind.wrap .i64 (v.2.2.1 - (1 : Int))) k r12_.2.2) fun r13_ =>
                                          .l (.inl ((IntKind.wrap .i64 (r12_.1 + (1 : Int))), (v.2.1, ((IntKind.wrap .i64 (v.2.2.1 - (1 : Int))), ((decide ((IntKind.wrap .i64 (Int.tdiv (IntKind.wrap .i64 (v.2.1 - v.1)) (8 : Int))) ≤ (IntKind.wrap .i64 (r12_.1 - v.1)))), (r12_.2.1, r13_)))))))
                                        (.c ((List Nat) × (List (List (Int)))) (rec_ (IntKind.wrap .i64 (r12_.1 + (1 : Int))) v.2.1 (IntKind.wrap .i64 (v.2.2.1 - (1 : Int))) k r12_.2.2) fun r14_ =>
                                          .l (.inl (v.1, (r12_.1, ((IntKind.wrap .i64 (v.2.2.1 - (1 : Int))), ((decide ((IntKind.wrap .i64 (Int.tdiv (IntKind.wrap .i64 (v.2.1 - v.1)) (8 : Int))) ≤ (IntKind.wrap .i64 (v.2.1 - r12_.1)))), (r12_.2.1, r14_)))))))))
                                (.c ((Int) × ((Bool) × ((List Nat) × (List (List (Int)))))) (F_slices_partitionCmpFunc_Sint v.1 v.2.1 r10_.1 k r9_) fun r15_ =>
                                  .g (!decide ((8 : Int) = 0)) <|
                                  .t (decide ((IntKind.wrap .i64 (r15_.1 - v.1)) < (IntKind.wrap .i64 (v.2.1 - r15_.1))))
                                    (.c ((List Nat) × (List (List (Int)))) (rec_ v.1 r15_.1 (IntKind.wrap .i64 (v.2.2.1 - (1 : Int))) k r15_.2.2) fun r16_ =>
                                      .l (.inl ((IntKind.wrap .i64 (r15_.1 + (1 : Int))), (v.2.1, ((IntKind.wrap .i64 (v.2.2.1 - (1 : Int))), ((decide ((IntKind.wrap .i64 (Int.tdiv (IntKind.wrap .i64 (v.2.1 - v.1)) (8 : Int))) ≤ (IntKind.wrap .i64 (r15_.1 - v.1)))), (r15_.2.1, r16_)))))))
                                    (.c ((List Nat) × (List (List (Int)))) (rec_ (IntKind.wrap .i64 (r15_.1 + (1 : Int))) v.2.1 (IntKind.wrap .i64 (v.2.2.1 - (1 : Int))) k r15_.2.2) fun r17_ =>
                                      .l (.inl (v.1, (r15_.1, ((IntKind.wrap .i64 (v.2.2.1 - (1 : Int))), ((decide ((IntKind.wrap .i64 (Int.tdiv (IntKind.wrap .i64 (v.2.1 - v.1)) (8 : Int))) ≤ (IntKind.wrap .i64 (v.2.1 - r15_.1)))), (r15_.2.1, r17_))))))))))
                        (.t (decide ((0 : Int) < v.1))
                            (.g (inR (IntKind.wrap .i64 (v.1 - (1 : Int))) (List.length r9_.1)) <|
                              .g (decide ((Int.toNat (IntKind.wrap .i64 (v.1 - (1 : Int)))) < List.length r9_.1) && decide ((List.getD r9_.1 (Int.toNat (IntKind.wrap .i64 (v.1 - (1 : Int)))) 0) < List.length r9_.2)) <|
                              .g (inR r10_.1 (List.length r9_.1)) <|
                              .g (decide ((Int.toNat r10_.1) < List.length r9_.1) && decide ((List.getD r9_.1 (Int.toNat r10_.1) 0) < List.length r9_.2)) <|
                              .c (Int) (k ((List.getD r9_.2 (List.getD r9_.1 (Int.toNat (IntKind.wrap .i64 (v.1 - (1 : Int)))) 0) ([] : List (Int))), ((List.getD r9_.2 (List.getD r9_.1 (Int.toNat r10_.1) 0) ([] : List (Int))), ()))) fun r18_ =>
                              .t (!(decide (r18_ < (0 : Int))))
                                (.f)
                                (.c ((Int) × ((Bool) × ((List Nat) × (List (List (Int)))))) (F_slices_partitionCmpFunc_Sint v.1 v.2.1 r10_.1 k r9_) fun r19_ =>
                                  .g (!decide ((8 : Int) = 0)) <|
                                  .t (decide ((IntKind.wrap .i64 (r19_.1 - v.1)) < (IntKind.wrap .i64 (v.2.1 - r19_.1))))
                                    (.c ((List Nat) × (List (List (Int)))) (rec_ v.1 r19_.1 (IntKind.wrap .i64 (v.2.2.1 - (1 : Int))) k r19_.2.2) fun r20_ =>
                                      .l (.inl ((IntKind.wrap .i64 (r19_.1 + (1 : Int))), (v.2.1, ((IntKind.wrap .i64 (v.2.2.1 - (1 : Int))), ((decide ((IntKind.wrap .i64 (Int.tdiv (IntKind.wrap .i64 (v.2.1 - v.1)) (8 : Int))) ≤ (IntKind.wrap .i64 (r19_.1 - v.1)))), (r19_.2.1, r20_)))))))
                                    (.c ((List Nat) × (List (List (Int)))) (rec_ (IntKind.wrap .i64 (r19_.1 + (1 : Int))) v.2.1 (IntKind.wrap .i64 (v.2.2.1 - (1 : Int))) k r19_.2.2) fun r21_ =>
                                      .l (.inl (v.1, (r19_.1, ((IntKind.wrap .i64 (v.2.2.1 - (1 : Int))), ((decide ((IntKind.wrap .i64 (Int.tdiv (IntKind.wrap .i64 (v.2.1 - v.1)) (8 : Int))) ≤ (IntKind.wrap .i64 (v.2.1 - r19_.1)))), (r19_.2.1, r21_)))))))))
                            (.c ((Int) × ((Bool) × ((List Nat) × (List (List (Int)))))) (F_slices_partitionCmpFunc_Sint v.1 v.2.1 r10_.1 k r9_) fun r22_ =>
                              .g (!decide ((8 : Int) = 0)) <|
                              .t (decide ((IntKind.wrap .i64 (r22_.1 - v.1)) < (IntKind.wrap .i64 (v.2.1 - r22_.1))))
                                (.c ((List Nat) × (List (List (Int)))) (rec_ v.1 r22_.1 (IntKind.wrap .i64 (v.2.2.1 - (1 : Int))) k r22_.2.2) fun r23_ =>
                                  .l (.inl ((IntKind.wrap .i64 (r22_.1 + (1 : Int))), (v.2.1, ((IntKind.wrap .i64 (v.2.2.1 - (1 : Int))), ((decide ((IntKind.wrap .i64 (Int.tdiv (IntKind.wrap .i64 (v.2.1 - v.1)) (8 : Int))) ≤ (IntKind.wrap .i64 (r22_.1 - v.1)))), (r22_.2.1, r23_)))))))
                                (.c ((List Nat) × (List (List (Int)))) (rec_ (IntKind.wrap .i64 (r22_.1 + (1 : Int))) v.2.1 (IntKind.wrap .i64 (v.2.2.1 - (1 : Int))) k r22_.2.2) fun r24_ =>
                                  .l (.inl (v.1, (r22_.1, ((IntKind.wrap .i64 (v.2.2.1 - (1 : Int))), ((decide ((IntKind.wrap .i64 (Int.tdiv (IntKind.wrap .i64 (v.2.1 - v.1)) (8 : Int))) ≤ (IntKind.wrap .i64 (v.2.1 - r22_.1)))), (r22_.2.1, r24_))))))))))
                    (.t (decide ((0 : Int) < v.1))
                        (.g (inR (IntKind.wrap .i64 (v.1 - (1 : Int))) (List.length r9_.1)) <|
                          .g (decide ((Int.toNat (IntKind.wrap .i64 (v.1 - (1 : Int)))) < List.length r9_.1) && decide ((List.getD r9_.1 (Int.toNat (IntKind.wrap .i64 (v.1 - (1 : Int)))) 0) < List.length r9_.2)) <|
                          .g (inR r10_.1 (List.length r9_.1)) <|
                          .g (decide ((Int.toNat r10_.1) < List.length r9_.1) && decide ((List.getD r9_.1 (Int.toNat r10_.1) 0) < List.length r9_.2)) <|
                          .c (Int) (k ((List.getD r9_.2 (List.getD r9_.1 (Int.toNat (IntKind.wrap .i64 (v.1 - (1 : Int)))) 0) ([] : List (Int))), ((List.getD r9_.2 (List.getD r9_.1 (Int.toNat r10_.1) 0) ([] : List (Int))), ()))) fun r25_ =>
                          .t (!(decide (r25_ < (0 : Int))))
                            (.f)
                            (.c ((Int) × ((Bool) × ((List Nat) × (List (List (Int)))))) (F_slices_partitionCmpFunc_Sint v.1 v.2.1 r10_.1 k r9_) fun r26_ =>
                              .g (!decide ((8 : Int) = 0)) <|
                              .t (decide ((IntKind.wrap .i64 (r26_.1 - v.1)) < (IntKind.wrap .i64 (v.2.1 - r26_.1))))
                                (.c ((List Nat) × (List (List (Int)))) (rec_ v.1 r26_.1 (IntKind.wrap .i64 (v.2.2.1 - (1 : Int))) k r26_.2.2) fun r27_ =>
                                  .l (.inl ((IntKind.wrap .i64 (r26_.1 + (1 : Int))), (v.2.1, ((IntKind.wrap .i64 (v.2.2.1 - (1 : Int))), ((decide ((IntKind.wrap .i64 (Int.tdiv (IntKind.wrap .i64 (v.2.1 - v.1)) (8 : Int))) ≤ (IntKind.wrap .i64 (r26_.1 - v.1)))), (r26_.2.1, r27_)))))))
                                (.c ((List Nat) × (List (List (Int)))) (rec_ (IntKind.wrap .i64 (r26_.1 + (1 : Int))) v.2.1 (IntKind.wrap .i64 (v.2.2.1 - (1 : Int))) k r26_.2.2) fun r28_ =>
                                  .l (.inl (v.1, (r26_.1, ((IntKind.wrap .i64 (v.2.2.1 - (1 : Int))), ((decide ((IntKind.wrap .i64 (Int.tdiv (IntKind.wrap .i64 (v.2.1 - v.1)) (8 : Int))) ≤ (IntKind.wrap .i64 (v.2.1 - r26_.1)))), (r26_.2.1, r28_)))))))))
                        (.c ((Int) × ((Bool) × ((List Nat) × (List (List (Int)))))) (F_slices_partitionCmpFunc_Sint v.1 v.2.1 r10_.1 k r9_) fun r29_ =>
                          .g (!decide ((8 : Int) = 0)) <|
                          .t (decide ((IntKind.wrap .i64 (r29_.1 - v.1)) < (IntKind.wrap .i64 (v.2.1 - r29_.1))))
                            (.c ((List Nat) × (List (List (Int)))) (rec_ v.1 r29_.1 (IntKind.wrap .i64 (v.2.2.1 - (1 : Int))) k r29_.2.2) fun r30_ =>
                              .l (.inl ((IntKind.wrap .i64 (r29_.1 + (1 : Int))), (v.2.1, ((IntKind.wrap .i64 (v.2.2.1 - (1 : Int))), ((decide ((IntKind.wrap .i64 (Int.tdiv (IntKind.wrap .i64 (v.2.1 - v.1)) (8 : Int))) ≤ (IntKind.wrap .i64 (r29_.1 - v.1)))), (r29_.2.1, r30_)))))))
                            (.c ((List Nat) × (List (List (Int)))) (rec_ (IntKind.wrap .i64 (r29_.1 + (1 : Int))) v.2.1 (IntKind.wrap .i64 (v.2.2.1 - (1 : Int))) k r29_.2.2) fun r31_ =>
                              .l (.inl (v.1, (r29_.1, ((IntKind.wrap .i64 (v.2.2.1 - (1 : Int))), ((decide ((IntKind.wrap .i64 (Int.tdiv (IntKind.wrap .i64 (v.2.1 - v.1)) (8 : Int))) ≤ (IntKind.wrap .i64 (v.2.1 - r29_.1)))), (r29_.2.1, r31_)))))))))))
            (.c ((Int) × (Int)) (F_slices_choosePivotCmpFunc_Sint (permL v.2.2.2.2.2.1 v.2.2.2.2.2.2) v.1 v.2.1 k) fun r32_ =>
              .t (r32_.2 == (2 : Int))
                (.f)
                (.t v.2.2.2.1
                    (.t v.2.2.2.2.1
                        (.t (r32_.2 == (1 : Int))
                            (.f)
                            (.t (decide ((0 : Int) < v.1))
                                (.g (inR (IntKind.wrap .i64 (v.1 - (1 : Int))) (List.length v.2.2.2.2.2.1)) <|
                                  .g (decide ((Int.toNat (IntKind.wrap .i64 (v.1 - (1 : Int)))) < List.length v.2.2.2.2.2.1) && decide ((List.getD v.2.2.2.2.2.1 (Int.toNat (IntKind.wrap .i64 (v.1 - (1 : Int)))) 0) < List.length v.2.2.2.2.2.2)) <|
                                  .g (inR r32_.1 (List.length v.2.2.2.2.2.1)) <|
                                  .g (decide ((Int.toNat r32_.1) < List.length v.2.2.2.2.2.1) && decide ((List.getD v.2.2.2.2.2.1 (Int.toNat r32_.1) 0) < List.length v.2.2.2.2.2.2)) <|
                                  .c (Int) (k ((List.getD v.2.2.2.2.2.2 (List.getD v.2.2.2.2.2.1 (Int.toNat (IntKind.wrap .i64 (v.1 - (1 : Int)))) 0) ([] : List (Int))), ((List.getD v.2.2.2.2.2.2 (List.getD v.2.2.2.2.2.1 (Int.toNat r32_.1) 0) ([] : List (Int))), ()))) fun r33_ =>
                                  .t (!(decide (r33_ < (0 : Int))))
                                    (.f)
                                    (.c ((Int) × ((Bool) × ((List Nat) × (List (List (Int)))))) (F_slices_partitionCmpFunc_Sint v.1 v.2.1 r32_.1 k v.2.2.2.2.2) fun r34_ =>
                                      .g (!decide ((8 : Int) = 0)) <|
                                      .t (decide ((IntKind.wrap .i64 (r34_.1 - v.1)) < (IntKind.wrap .i64 (v.2.1 - r34_.1))))
                                        (.c ((List Nat) × (List (List (Int)))) (rec_ v.1 r34_.1 v.2.2.1 k r34_.2.2) fun r35_ =>
                                          .l (.inl ((IntKind.wrap .i64 (r34_.1 + (1 : Int))), (v.2.1, (v.2.2.1, ((decide ((IntKind.wrap .i64 (Int.tdiv (IntKind.wrap .i64 (v.2.1 - v.1)) (8 : Int))) ≤ (IntKind.wrap .i64 (r34_.1 - v.1)))), (r34_.2.1, r35_)))))))
                                        (.c ((List Nat) × (List (List (Int)))) (rec_ (IntKind.wrap .i64 (r34_.1 + (1 : Int))) v.2.1 v.2.2.1 k r34_.2.2) fun r36_ =>
                                          .l (.inl (v.1, (r34_.1, (v.2.2.1, ((decide ((IntKind.wrap .i64 (Int.tdiv (IntKind.wrap .i64 (v.2.1 - v.1)) (8 : Int))) ≤ (IntKind.wrap .i64 (v.2.1 - r34_.1)))), (r34_.2.1, r36_)))))))))
                                (.c ((Int) × ((Bool) × ((List Nat) × (List (List (Int)))))) (F_slices_partitionCmpFunc_Sint v.1 v.2.1 r32_.1 k v.2.2.2.2.2) fun r37_ =>
                                  .g (!decide ((8 : Int) = 0)) <|
                                  .t (decide ((IntKind.wrap .i64 (r37_.1 - v.1)) < (IntKind.wrap .i64 (v.2.1 - r37_.1))))
                                    (.c ((List Nat) × (List (List (Int)))) (rec_ v.1 r37_.1 v.2.2.1 k r37_.2.2) fun r38_ =>
                                      .l (.inl ((IntKind.wrap .i64 (r37_.1 + (1 : Int))), (v.2.1, (v.2.2.1, ((decide ((IntKind.wrap .i64 (Int.tdiv (IntKind.wrap .i64 (v.2.1 - v.1)) (8 : Int))) ≤ (IntKind.wrap .i64 (r37_.1 - v.1)))), (r37_.2.1, r38_)))))))
                                    (.c ((List Nat) × (List (List (Int)))) (rec_ (IntKind.wrap .i64 (r37_.1 + (1 : Int))) v.2.1 v.2.2.1 k r37_.2.2) fun r39_ =>
                                      .l (.inl (v.1, (r37_.1, (v.2.2.1, ((decide ((IntKind.wrap .i64 (Int.tdiv (IntKind.wrap .i64 (v.2.1 - v.1)) (8 : Int))) ≤ (IntKind.wrap .i64 (v.2.1 - r37_.1)))), (r37_.2.1, r39_))))))))))
                        (.t (decide ((0 : Int) < v.1))
                            (.g (inR (IntKind.wrap .i64 (v.1 - (1 : Int))) (List.length v.2.2.2.2.2.1)) <|
                              .g (decide ((Int.toNat (IntKind.wrap .i64 (v.1 - (1 : Int)))) < List.length v.2.2.2.2.2.1) && decide ((List.getD v.2.2.2.2.2.1 (Int.toNat (IntKind.wrap .i64 (v.1 - (1 : Int)))) 0) < List.length v.2.2.2.2.2.2)) <|
                              .g (inR r32_.1 (List.length v.2.2.2.2.2.1)) <|
                              .g (decide ((Int.toNat r32_.1) < List.length v.2.2.2.2.2.1) && decide ((List.getD v.2.2.2.2.2.1 (Int.toNat r32_.1) 0) < List.length v.2.2.2.2.2.2)) <|
                              .c (Int) (k ((List.getD v.2.2.2.2.2.2 (List.getD v.2.2.2.2.2.1 (Int.toNat (IntKind.wrap .i64 (v.1 - (1 : Int)))) 0) ([] : List (Int))), ((List.getD v.2.2.2.2.2.2 (List.getD v.2.2.2.2.2.1 (Int.toNat r32_.1) 0) ([] : List (Int))), ()))) fun r40_ =>
                              .t (!(decide (r40_ < (0 : Int))))
                                (.f)
                                (.c ((Int) × ((Bool) × ((List Nat) × (List (List (Int)))))) (F_slices_partitionCmpFunc_Sint v.1 v.2.1 r32_.1 k v.2.2.2.2.2) fun r41_ =>
                                  .g (!decide ((8 : Int) = 0)) <|
                                  .t (decide ((IntKind.wrap .i64 (r41_.1 - v.1)) < (IntKind.wrap .i64 (v.2.1 - r41_.1))))
                                    (.c ((List Nat) × (List (List (Int)))) (rec_ v.1 r41_.1 v.2.2.1 k r41_.2.2) fun r42_ =>
                                      .l (.inl ((IntKind.wrap .i64 (r41_.1 + (1 : Int))), (v.2.1, (v.2.2.1, ((decide ((IntKind.wrap .i64 (Int.tdiv (IntKind.wrap .i64 (v.2.1 - v.1)) (8 : Int))) ≤ (IntKind.wrap .i64 (r41_.1 - v.1)))), (r41_.2.1, r42_)))))))
                                    (.c ((List Nat) × (List (List (Int)))) (rec_ (IntKind.wrap .i64 (r41_.1 + (1 : Int))) v.2.1 v.2.2.1 k r41_.2.2) fun r43_ =>
                                      .l (.inl (v.1, (r41_.1, (v.2.2.1, ((decide ((IntKind.wrap .i64 (Int.tdiv (IntKind.wrap .i64 (v.2.1 - v.1)) (8 : Int))) ≤ (IntKind.wrap .i64 (v.2.1 - r41_.1)))), (r41_.2.1, r43_)))))))))
                            (.c ((Int) × ((Bool) × ((List Nat) × (List (List (Int)))))) (F_slices_partitionCmpFunc_Sint v.1 v.2.1 r32_.1 k v.2.2.2.2.2) fun r44_ =>
                              .g (!decide ((8 : Int) = 0)) <|
                              .t (decide ((IntKind.wrap .i64 (r44_.1 - v.1)) < (IntKind.wrap .i64 (v.2.1 - r44_.1))))
                                (.c ((List Nat) × (List (List (Int)))) (rec_ v.1 r44_.1 v.2.2.1 k r44_.2.2) fun r45_ =>
                                  .l (.inl ((IntKind.wrap .i64 (r44_.1 + (1 : Int))), (v.2.1, (v.2.2.1, ((decide ((IntKind.wrap .i64 (Int.tdiv (IntKind.wrap .i64 (v.2.1 - v.1)) (8 : Int))) ≤ (IntKind.wrap .i64 (r44_.1 - v.1)))), (r44_.2.1, r45_)))))))
                                (.c ((List Nat) × (List (List (Int)))) (rec_ (IntKind.wrap .i64 (r44_.1 + (1 : Int))) v.2.1 v.2.2.1 k r44_.2.2) fun r46_ =>
                                  .l (.inl (v.1, (r44_.1, (v.2.2.1, ((decide ((IntKind.wrap .i64 (Int.tdiv (IntKind.wrap .i64 (v.2.1 - v.1)) (8 : Int))) ≤ (IntKind.wrap .i64 (v.2.1 - r44_.1)))), (r44_.2.1, r46_))))))))))
                    (.t (decide ((0 : Int) < v.1))
                        (.g (inR (IntKind.wrap .i64 (v.1 - (1 : Int))) (List.length v.2.2.2.2.2.1)) <|
                          .g (decide ((Int.toNat (IntKind.wrap .i64 (v.1 - (1 : Int)))) < List.length v.2.2.2.2.2.1) && decide ((List.getD v.2.2.2.2.2.1 (Int.toNat (IntKind.wrap .i64 (v.1 - (1 : Int)))) 0) < List.length v.2.2.2.2.2.2)) <|
                          .g (inR r32_.1 (List.length v.2.2.2.2.2.1)) <|
                          .g (decide ((Int.toNat r32_.1) < List.length v.2.2.2.2.2.1) && decide ((List.getD v.2.2.2.2.2.1 (Int.toNat r32_.1) 0) < List.length v.2.2.2.2.2.2)) <|
                          .c (Int) (k ((List.getD v.2.2.2.2.2.2 (List.getD v.2.2.2.2.2.1 (Int.toNat (IntKind.wrap .i64 (v.1 - (1 : Int)))) 0) ([] : List (Int))), ((List.getD v.2.2.2.2.2.2 (List.getD v.2.2.2.2.2.1 (Int.toNat r32_.1) 0) ([] : List (Int))), ()))) fun r47_ =>
                          .t (!(decide (r47_ < (0 : Int))))
                            (.f)
                            (.c ((Int) × ((Bool) × ((List Nat) × (List (List (Int)))))) (F_slices_partitionCmpFunc_Sint v.1 v.2.1 r32_.1 k v.2.2.2.2.2) fun r48_ =>
                              .g (!decide ((8 : Int) = 0)) <|
                              .t (decide ((IntKind.wrap .i64 (r48_.1 - v.1)) < (IntKind.wrap .i64 (v.2.1 - r48_.1))))
                                (.c ((List Nat) × (List (List (Int)))) (rec_ v.1 r48_.1 v.2.2.1 k r48_.2.2) fun r49_ =>
                                  .l (.inl ((IntKind.wrap .i64 (r48_.1 + (1 : Int))), (v.2.1, (v.2.2.1, ((decide ((IntKind.wrap .i64 (Int.tdiv (IntKind.wrap .i64 (v.2.1 - v.1)) (8 : Int))) ≤ (IntKind.wrap .i64 (r48_.1 - v.1)))), (r48_.2.1, r49_)))))))
                                (.c ((List Nat) × (List (List (Int)))) (rec_ (IntKind.wrap .i64 (r48_.1 + (1 : Int))) v.2.1 v.2.2.1 k r48_.2.2) fun r50_ =>
                                  .l (.inl (v.1, (r48_.1, (v.2.2.1, ((decide ((IntKind.wrap .i64 (Int.tdiv (IntKind.wrap .i64 (v.2.1 - v.1)) (8 : Int))) ≤ (IntKind.wrap .i64 (v.2.1 - r48_.1)))), (r48_.2.1, r50_)))))))))
                        (.c ((Int) × ((Bool) × ((List Nat) × (List (List (Int)))))) (F_slices_partitionCmpFunc_Sint v.1 v.2.1 r32_.1 k v.2.2.2.2.2) fun r51_ =>
                          .g (!decide ((8 : Int) = 0)) <|
                          .t (decide ((IntKind.wrap .i64 (r51_.1 - v.1)) < (IntKind.wrap .i64 (v.2.1 - r51_.1))))
                            (.c ((List Nat) × (List (List (Int)))) (rec_ v.1 r51_.1 v.2.2.1 k r51_.2.2) fun r52_ =>
                              .l (.inl ((IntKind.wrap .i64 (r51_.1 + (1 : Int))), (v.2.1, (v.2.2.1, ((decide ((IntKind.wrap .i64 (Int.tdiv (IntKind.wrap .i64 (v.2.1 - v.1)) (8 : Int))) ≤ (IntKind.wrap .i64 (r51_.1 - v.1)))), (r51_.2.1, r52_)))))))
                            (.c ((List Nat) × (List (List (Int)))) (rec_ (IntKind.wrap .i64 (r51_.1 + (1 : Int))) v.2.1 v.2.2.1 k r51_.2.2) fun r53_ =>
                              .l (.inl (v.1, (r51_.1, (v.2.2.1, ((decide ((IntKind.wrap .i64 (Int.tdiv (IntKind.wrap .i64 (v.2.1 - v.1)) (8 : Int))) ≤ (IntKind.wrap .i64 (v.2.1 - r51_.1)))), (r51_.2.1, r53_)))))))))))))
noncomputable def L_slices_pdqsortCmpFunc_Sint_0 (rec_ : (Int) → (Int) → (Int) → ((HL [(.slice (.int .i64)), (.slice (.int .i64))] → Option (Int))) → ((List Nat) × (List (List (Int)))) → Option ((List Nat) × (List (List (Int))))) (k : (HL [(.slice (.int .i64)), (.slice (.int .i64))] → Option (Int))) (v : (Int) × ((Int) × ((Int) × ((Bool) × ((Bool) × ((List Nat) × (List (List (Int))))))))) : Option ((List Nat) × (List (List (Int)))) := iter (fun v => (S_slices_pdqsortCmpFunc_Sint_0 rec_ k v).ev) v
noncomputable def DL_slices_pdqsortCmpFunc_Sint_0 (rec_ : (Int) → (Int) → (Int) → ((HL [(.slice (.int .i64)), (.slice (.int .i64))] → Option (Int))) → ((List Nat) × (List (List (Int)))) → Option ((List Nat) × (List (List (Int))))) : LD where
  head := { acts := [], S := { slots := [0, 1, 2, 3, 4, 10, 11], sh := (.cons (.arr 64) (.cons (.dat (.int .i64)) (.cons (.dat (.int .i64)) (.cons (.dat (.int .i64)) (.cons (.clo [(.slice (.int .i64)), (.slice (.int .i64))] (.int .i64)) (.cons (.dat .bool) (.cons (.dat .bool) .nil))))))), obs := [(64, .perm 22 3 (.int .i64))] } }
  exits := []
  rets := { acts := [], S := { slots := [0], sh := (.cons (.arr 64) .nil), obs := [(64, .perm 22 3 (.int .i64))] } }
  K := (HL [(.slice (.int .i64)), (.slice (.int .i64))] → Option (Int))
  V := (Int) × ((Int) × ((Int) × ((Bool) × ((Bool) × ((List Nat) × (List (List (Int))))))))
  R := (List Nat) × (List (List (Int)))
  join := fun k v => (((), (v.1, (v.2.1, (v.2.2.1, (k, (v.2.2.2.1, (v.2.2.2.2.1, ()))))))), (v.2.2.2.2.2, ()))
  sk := fun t => t.1.2.2.2.2.1
  sv := fun t => (t.1.2.1, (t.1.2.2.1, (t.1.2.2.2.1, (t.1.2.2.2.2.2.1, (t.1.2.2.2.2.2.2.1, t.2.1)))))
  step := S_slices_pdqsortCmpFunc_Sint_0 rec_
  leaf := fun _ r => .l (.ret (mkSt ({ slots := [0], sh := (.cons (.arr 64) .nil), obs := [(64, .perm 22 3 (.int .i64))] }) (((), ()), (r, ()))))
noncomputable def T_slices_pdqsortCmpFunc_Sint (rec_ : (Int) → (Int) → (Int) → ((HL [(.slice (.int .i64)), (.slice (.int .i64))] → Option (Int))) → ((List Nat) × (List (List (Int)))) → Option ((List Nat) × (List (List (Int))))) (a2_ : Int) (a3_ : Int) (a4_ : Int) (a5_ : (HL [(.slice (.int .i64)), (.slice (.int .i64))] → Option (Int))) (a1_ : (List Nat) × (List (List (Int)))) : Tr ((List Nat) × (List (List (Int)))) :=
  .c ((List Nat) × (List (List (Int)))) (L_slices_pdqsortCmpFunc_Sint_0 rec_ a5_ (a2_, (a3_, (a4_, (true, (true, a1_)))))) fun r55_ =>
  .l r55_
noncomputable def F_slices_pdqsortCmpFunc_Sint : Nat → (Int) → (Int) → (Int) → ((HL [(.slice (.int .i64)), (.slice (.int .i64))] → Option (Int))) → ((List Nat) × (List (List (Int)))) → Option ((List Nat) × (List (List (Int))))
  | 0 => fun _ _ _ _ _ => none
  | n + 1 => fun a2_ a3_ a4_ a5_ a1_ => (T_slices_pdqsortCmpFunc_Sint (F_slices_pdqsortCmpFunc_Sint n) a2_ a3_ a4_ a5_ a1_).ev
noncomputable def A_slices_pdqsortCmpFunc_Sint : Sh := (.cons (.arr 64) (.cons (.dat (.int .i64)) (.cons (.dat (.int .i64)) (.cons (.dat (.int .i64)) (.cons (.clo [(.slice (.int .i64)), (.slice (.int .i64))] (.int .i64)) .nil)))))
noncomputable def I_slices_pdqsortCmpFunc_Sint : List (Nat × OSh) := [(64, .perm 22 3 (.int .i64))]
noncomputable def K_slices_pdqsortCmpFunc_Sint : RetK := { acts := [], res := [], sh := .nil, obs := [(64, .perm 22 3 (.int .i64))], pins := [(0, 0, 64)] }
noncomputable def Dr_slices_pdqsortCmpFunc_Sint (rec_ : (Int) → (Int) → (Int) → ((HL [(.slice (.int .i64)), (.slice (.int .i64))] → Option (Int))) → ((List Nat) × (List (List (Int)))) → Option ((List Nat) × (List (List (Int))))) : FD where
  A := A_slices_pdqsortCmpFunc_Sint
  ins := I_slices_pdqsortCmpFunc_Sint
  lend := [.arg 0]
  R := (List Nat) × (List (List (Int)))
  F := fun x => rec_ x.1.2.1 x.1.2.2.1 x.1.2.2.2.1 x.1.2.2.2.2.1 x.2.1
  emb := fun r => ([], [(64, .perm false 22 3 (.int .i64) r.1 r.2)])
noncomputable def D_slices_pdqsortCmpFunc_Sint (n : Nat) : FD := Dr_slices_pdqsortCmpFunc_Sint (F_slices_pdqsortCmpFunc_Sint n)
noncomputable def E_slices_pdqsortCmpFunc_Sint (rec_ : (Int) → (Int) → (Int) → ((HL [(.slice (.int .i64)), (.slice (.int .i64))] → Option (Int))) → ((List Nat) × (List (List (Int)))) → Option ((List Nat) × (List (List (Int))))) : Env := envOf [(205, D_slices_insertionSortCmpFunc_Sint), (207, D_slices_breakPatternsCmpFunc_Sint), (208, D_slices_choosePivotCmpFunc_Sint), (212, D_slices_partitionCmpFunc_Sint), (187, Dr_slices_pdqsortCmpFunc_Sint rec_)]
noncomputable def Z_slices_pdqsortCmpFunc_Sint : Nat → Nat → List Nat := fun _ _ => []
noncomputable def O_slices_pdqsortCmpFunc_Sint (rec_ : (Int) → (Int) → (Int) → ((HL [(.slice (.int .i64)), (.slice (.int .i64))] → Option (Int))) → ((List Nat) × (List (List (Int)))) → Option ((List Nat) × (List (List (Int))))) : List (Nat × LD) := [(0, DL_slices_pdqsortCmpFunc_Sint_0 rec_)]
noncomputable def C_slices_pdqsortCmpFunc_Sint : Code := (f187.body).getD .skip
noncomputable def T_slices_SortFunc_SSint_Sint (a2_ : (HL [(.slice (.int .i64)), (.slice (.int .i64))] → Option (Int))) (a1_ : (List Nat) × (List (List (Int)))) : Tr ((List Nat) × (List (List (Int)))) :=
  .c (Int) (F_math_bits_Len (IntKind.wrap .u64 ((List.length a1_.1 : Nat) : Int))) fun r1_ =>
  .c ((List Nat) × (List (List (Int)))) (F_slices_pdqsortCmpFunc_Sint 1000000 (0 : Int) ((List.length a1_.1 : Nat) : Int) r1_ a2_ a1_) fun r2_ =>
  .l r2_
noncomputable def F_slices_SortFunc_SSint_Sint (a2_ : (HL [(.slice (.int .i64)), (.slice (.int .i64))] → Option (Int))) (a1_ : (List Nat) × (List (List (Int)))) : Option ((List Nat) × (List (List (Int)))) := (T_slices_SortFunc_SSint_Sint a2_ a1_).ev
noncomputable def A_slices_SortFunc_SSint_Sint : Sh := (.cons (.arr 64) (.cons (.clo [(.slice (.int .i64)), (.slice (.int .i64))] (.int .i64)) .nil))
noncomputable def I_slices_SortFunc_SSint_Sint : List (Nat × OSh) := [(64, .perm 22 3 (.int .i64))]
noncomputable def K_slices_SortFunc_SSint_Sint : RetK := { acts := [], res := [], sh := .nil, obs := [(64, .perm 22 3 (.int .i64))], pins := [(0, 0, 64)] }
noncomputable def D_slices_SortFunc_SSint_Sint : FD where
  A := A_slices_SortFunc_SSint_Sint
  ins := I_slices_SortFunc_SSint_Sint
  lend := [.arg 0]
  R := (List Nat) × (List (List (Int)))
  F := fun x => F_slices_SortFunc_SSint_Sint x.1.2.1 x.2.1
  emb := fun r => ([], [(64, .perm false 22 3 (.int .i64) r.1 r.2)])
noncomputable def E_slices_SortFunc_SSint_Sint : Env := envOf [(185, D_math_bits_Len), (187, D_slices_pdqsortCmpFunc_Sint 1000000)]
noncomputable def Z_slices_SortFunc_SSint_Sint : Nat → Nat → List Nat := fun _ _ => []
noncomputable def O_slices_SortFunc_SSint_Sint : List (Nat × LD) := []
noncomputable def C_slices_SortFunc_SSint_Sint : Code := (f168.body).getD .skip
noncomputable def T_cmp_isNaN_int (a1_ : Int) : Tr (Bool) :=
  .l (a1_ != a1_)
noncomputable def F_cmp_isNaN_int (a1_ : Int) : Option (Bool) := (T_cmp_isNaN_int a1_).ev
noncomputable def A_cmp_isNaN_int : Sh := (.cons (.dat (.int .i64)) .nil)
noncomputable def I_cmp_isNaN_int : List (Nat × OSh) := []
noncomputable def K_cmp_isNaN_int : RetK := { acts := [], res := [.tmp 2], sh := (.cons (.dat .bool) .nil), obs := [], pins := [] }
noncomputable def D_cmp_isNaN_int : FD where
  A := A_cmp_isNaN_int
  ins := I_cmp_isNaN_int
  lend := []
  R := Bool
  F := fun x => F_cmp_isNaN_int x.1.1
  emb := fun r => ([.dat .bool r], [])
noncomputable def E_cmp_isNaN_int : Env := envOf []
noncomputable def Z_cmp_isNaN_int : Nat → Nat → List Nat := fun _ _ => []
noncomputable def O_cmp_isNaN_int : List (Nat × LD) := []
noncomputable def C_cmp_isNaN_int : Code := (f213.body).getD .skip
noncomputable def T_cmp_Compare_int (a1_ : Int) (a2_ : Int) : Tr (Int) :=
  .c (Bool) (F_cmp_isNaN_int a1_) fun r1_ =>
  .c (Bool) (F_cmp_isNaN_int a2_) fun r2_ =>
  .t r1_
    (.t r2_
        (.l (0 : Int))
        (.l (-1 : Int)))
    (.t r2_
        (.l (1 : Int))
        (.t (decide (a1_ < a2_))
            (.l (-1 : Int))
            (.t (decide (a2_ < a1_))
                (.l (1 : Int))
                (.l (0 : Int)))))
noncomputable def F_cmp_Compare_int (a1_ : Int) (a2_ : Int) : Option (Int) := (T_cmp_Compare_int a1_ a2_).ev
noncomputable def A_cmp_Compare_int : Sh := (.cons (.dat (.int .i64)) (.cons (.dat (.int .i64)) .nil))
noncomputable def I_cmp_Compare_int : List (Nat × OSh) := []
noncomputable def K_cmp_Compare_int : RetK := { acts := [], res := [.tmp 4], sh := (.cons (.dat (.int .i64)) .nil), obs := [], pins := [] }
noncomputable def D_cmp_Compare_int : FD where
  A := A_cmp_Compare_int
  ins := I_cmp_Compare_int
  lend := []
  R := Int
  F := fun x => F_cmp_Compare_int x.1.1 x.1.2.1
  emb := fun r => ([.dat (.int .i64) r], [])
noncomputable def E_cmp_Compare_int : Env := envOf [(213, D_cmp_isNaN_int)]
noncomputable def Z_cmp_Compare_int : Nat → Nat → List Nat := fun _ _ => []
noncomputable def O_cmp_Compare_int : List (Nat × LD) := []
noncomputable def C_cmp_Compare_int : Code := (f189.body).getD .skip
noncomputable def S_slices_Compare_Sint_int_0 (k : (List (Int)) × ((List (Int)) × ((List (Int)) × (Int)))) (v : Int) : Tr ((Int) ⊕ ((Unit) ⊕ (Int))) :=
  .t (decide (v < k.2.2.2))
    (.g (inR v (List.length k.2.2.1)) <|
      .t (decide (((List.length k.2.1 : Nat) : Int) ≤ v))
        (.l (.inr (.inr (1 : Int))))
        (.g (inR v (List.length k.2.1)) <|
          .c (Int) (F_cmp_Compare_int (List.getD k.2.2.1 (Int.toNat v) (0 : Int)) (List.getD k.2.1 (Int.toNat v) (0 : Int))) fun r6_ =>
          .t (r6_ != (0 : Int))
            (.l (.inr (.inr r6_)))
            (.l (.inl (IntKind.wrap .i64 (v + (1 : Int)))))))
    (.l (.inr (.inl ())))
noncomputable def L_slices_Compare_Sint_int_0 (k : (List (Int)) × ((List (Int)) × ((List (Int)) × (Int)))) (v : Int) : Option ((Unit) ⊕ (Int)) := iter (fun v => (S_slices_Compare_Sint_int_0 k v).ev) v
noncomputable def DL_slices_Compare_Sint_int_0 : LD where
  head := { acts := [], S := { slots := [0, 1, 9, 10, 11], sh := (.cons (.dat (.slice (.int .i64))) (.cons (.dat (.slice (.int .i64))) (.cons (.dat (.slice (.int .i64))) (.cons (.dat (.int .i64)) (.cons (.dat (.int .i64)) .nil))))), obs := [] } }
  exits := [(0, { acts := [], S := { slots := [0, 1], sh := (.cons (.dat (.slice (.int .i64))) (.cons (.dat (.slice (.int .i64))) .nil)), obs := [] } })]
  rets := { acts := [], S := { slots := [4], sh := (.cons (.dat (.int .i64)) .nil), obs := [] } }
  K := (List (Int)) × ((List (Int)) × ((List (Int)) × (Int)))
  V := Int
  R := (Unit) ⊕ (Int)
  join := fun k v => ((k.1, (k.2.1, (k.2.2.1, (k.2.2.2, (v, ()))))), ())
  sk := fun t => (t.1.1, (t.1.2.1, (t.1.2.2.1, t.1.2.2.2.1)))
  sv := fun t => t.1.2.2.2.2.1
  step := S_slices_Compare_Sint_int_0
  leaf := fun k r => .s (Unit) (Int) r (fun _ => .l (.exit 0 (mkSt ({ slots := [0, 1], sh := (.cons (.dat (.slice (.int .i64))) (.cons (.dat (.slice (.int .i64))) .nil)), obs := [] }) ((k.1, (k.2.1, ())), ())))) (fun b => .l (.ret (mkSt ({ slots := [4], sh := (.cons (.dat (.int .i64)) .nil), obs := [] }) ((b, ()), ()))))
noncomputable def T_slices_Compare_Sint_int (a1_ : List (Int)) (a2_ : List (Int)) : Tr (Int) :=
  .c ((Unit) ⊕ (Int)) (L_slices_Compare_Sint_int_0 (a1_, (a2_, (a1_, ((List.length a1_ : Nat) : Int)))) (0 : Int)) fun r10_ =>
  .s (Unit) (Int) r10_
    (fun _ => .t (decide (((List.length a1_ : Nat) : Int) < ((List.length a2_ : Nat) : Int)))
        (.l (-1 : Int))
        (.l (0 : Int)))
    (fun r12_ => .l r12_)
noncomputable def F_slices_Compare_Sint_int (a1_ : List (Int)) (a2_ : List (Int)) : Option (Int) := (T_slices_Compare_Sint_int a1_ a2_).ev
noncomputable def A_slices_Compare_Sint_int : Sh := (.cons (.dat (.slice (.int .i64))) (.cons (.dat (.slice (.int .i64))) .nil))
noncomputable def I_slices_Compare_Sint_int : List (Nat × OSh) := []
noncomputable def K_slices_Compare_Sint_int : RetK := { acts := [], res := [.tmp 4], sh := (.cons (.dat (.int .i64)) .nil), obs := [], pins := [] }
noncomputable def D_slices_Compare_Sint_int : FD where
  A := A_slices_Compare_Sint_int
  ins := I_slices_Compare_Sint_int
  lend := []
  R := Int
  F := fun x => F_slices_Compare_Sint_int x.1.1 x.1.2.1
  emb := fun r => ([.dat (.int .i64) r], [])
noncomputable def E_slices_Compare_Sint_int : Env := envOf [(189, D_cmp_Compare_int)]
noncomputable def Z_slices_Compare_Sint_int : Nat → Nat → List Nat := fun _ _ => []
noncomputable def O_slices_Compare_Sint_int : List (Nat × LD) := [(0, DL_slices_Compare_Sint_int_0)]
noncomputable def C_slices_Compare_Sint_int : Code := (f190.body).getD .skip
noncomputable def S_cmp_Or_int_0 (k : (Int) × ((List (Int)) × (Int))) (v : Int) : Tr ((Int) ⊕ ((Unit) ⊕ (Int))) :=
  .t (decide (v < k.2.2))
    (.g (inR v (List.length k.2.1)) <|
      .t ((List.getD k.2.1 (Int.toNat v) (0 : Int)) != k.1)
        (.l (.inr (.inr (List.getD k.2.1 (Int.toNat v) (0 : Int)))))
        (.l (.inl (IntKind.wrap .i64 (v + (1 : Int))))))
    (.l (.inr (.inl ())))
noncomputable def L_cmp_Or_int_0 (k : (Int) × ((List (Int)) × (Int))) (v : Int) : Option ((Unit) ⊕ (Int)) := iter (fun v => (S_cmp_Or_int_0 k v).ev) v
noncomputable def DL_cmp_Or_int_0 : LD where
  head := { acts := [], S := { slots := [3, 6, 7, 8], sh := (.cons (.dat (.int .i64)) (.cons (.dat (.slice (.int .i64))) (.cons (.dat (.int .i64)) (.cons (.dat (.int .i64)) .nil)))), obs := [] } }
  exits := [(0, { acts := [], S := { slots := [3], sh := (.cons (.dat (.int .i64)) .nil), obs := [] } })]
  rets := { acts := [], S := { slots := [2], sh := (.cons (.dat (.int .i64)) .nil), obs := [] } }
  K := (Int) × ((List (Int)) × (Int))
  V := Int
  R := (Unit) ⊕ (Int)
  join := fun k v => ((k.1, (k.2.1, (k.2.2, (v, ())))), ())
  sk := fun t => (t.1.1, (t.1.2.1, t.1.2.2.1))
  sv := fun t => t.1.2.2.2.1
  step := S_cmp_Or_int_0
  leaf := fun k r => .s (Unit) (Int) r (fun _ => .l (.exit 0 (mkSt ({ slots := [3], sh := (.cons (.dat (.int .i64)) .nil), obs := [] }) ((k.1, ()), ())))) (fun b => .l (.ret (mkSt ({ slots := [2], sh := (.cons (.dat (.int .i64)) .nil), obs := [] }) ((b, ()), ()))))
noncomputable def T_cmp_Or_int (a1_ : List (Int)) : Tr (Int) :=
  .c ((Unit) ⊕ (Int)) (L_cmp_Or_int_0 ((0 : Int), (a1_, ((List.length a1_ : Nat) : Int))) (0 : Int)) fun r7_ =>
  .s (Unit) (Int) r7_
    (fun _ => .l (0 : Int))
    (fun r9_ => .l r9_)
noncomputable def F_cmp_Or_int (a1_ : List (Int)) : Option (Int) := (T_cmp_Or_int a1_).ev
noncomputable def A_cmp_Or_int : Sh := (.cons (.dat (.slice (.int .i64))) .nil)
noncomputable def I_cmp_Or_int : List (Nat × OSh) := []
noncomputable def K_cmp_Or_int : RetK := { acts := [], res := [.tmp 2], sh := (.cons (.dat (.int .i64)) .nil), obs := [], pins := [] }
noncomputable def D_cmp_Or_int : FD where
  A := A_cmp_Or_int
  ins := I_cmp_Or_int
  lend := []
  R := Int
  F := fun x => F_cmp_Or_int x.1.1
  emb := fun r => ([.dat (.int .i64) r], [])
noncomputable def E_cmp_Or_int : Env := envOf []
noncomputable def Z_cmp_Or_int : Nat → Nat → List Nat := fun _ _ => []
noncomputable def O_cmp_Or_int : List (Nat × LD) := [(0, DL_cmp_Or_int_0)]
noncomputable def C_cmp_Or_int : Code := (f188.body).getD .skip
noncomputable def T_im_compareSets (a1_ : List (Int)) (a2_ : List (Int)) : Tr (Int) :=
  .c (Int) (F_cmp_Compare_int ((List.length a1_ : Nat) : Int) ((List.length a2_ : Nat) : Int)) fun r1_ =>
  .c (Int) (F_slices_Compare_Sint_int a1_ a2_) fun r2_ =>
  .c (Int) (F_cmp_Or_int ([r1_, r2_] : List (Int))) fun r3_ =>
  .l r3_
noncomputable def F_im_compareSets (a1_ : List (Int)) (a2_ : List (Int)) : Option (Int) := (T_im_compareSets a1_ a2_).ev
noncomputable def A_im_compareSets : Sh := (.cons (.dat (.slice (.int .i64))) (.cons (.dat (.slice (.int .i64))) .nil))
noncomputable def I_im_compareSets : List (Nat × OSh) := []
noncomputable def K_im_compareSets : RetK := { acts := [], res := [.tmp 4], sh := (.cons (.dat (.int .i64)) .nil), obs := [], pins := [] }
noncomputable def D_im_compareSets : FD where
  A := A_im_compareSets
  ins := I_im_compareSets
  lend := []
  R := Int
  F := fun x => F_im_compareSets x.1.1 x.1.2.1
  emb := fun r => ([.dat (.int .i64) r], [])
noncomputable def E_im_compareSets : Env := envOf [(189, D_cmp_Compare_int), (190, D_slices_Compare_Sint_int), (188, D_cmp_Or_int)]
noncomputable def Z_im_compareSets : Nat → Nat → List Nat := fun _ _ => []
noncomputable def O_im_compareSets : List (Nat × LD) := []
noncomputable def C_im_compareSets : Code := (f169.body).getD .skip
noncomputable def S_im_sets_0 (k : Int) (v : (Int) × (List (List (Int)))) : Tr (((Int) × (List (List (Int)))) ⊕ (List (List (Int)))) :=
  .g (decide ((0 : Int) ≤ k)) <|
  .t (decide (v.1 < (IntKind.wrap .u64 ((1 : Int) * 2 ^ (min (Int.toNat k) (IntKind.bits .u64))))))
    (.c (List (Int)) (F_im_bag_list v.1) fun r4_ =>
      .g (decide ((List.length v.2 + 1) * 24 ≤ 140737488355328)) <|
      .l (.inl ((IntKind.wrap .u64 (v.1 + (1 : Int))), (List.set (v.2 ++ [[]]) (List.length v.2) r4_))))
    (.l (.inr v.2))
noncomputable def L_im_sets_0 (k : Int) (v : (Int) × (List (List (Int)))) : Option (List (List (Int))) := iter (fun v => (S_im_sets_0 k v).ev) v
noncomputable def DL_im_sets_0 : LD where
  head := { acts := [], S := { slots := [0, 3, 4], sh := (.cons (.dat (.int .i64)) (.cons (.arr 5) (.cons (.dat (.int .u64)) .nil))), obs := [(5, .rows 22 3 (.int .i64))] } }
  exits := [(0, { acts := [], S := { slots := [3], sh := (.cons (.arr 5) .nil), obs := [(5, .rows 22 3 (.int .i64))] } })]
  rets := { acts := [], S := { slots := [], sh := .nil, obs := [] } }
  K := Int
  V := (Int) × (List (List (Int)))
  R := List (List (Int))
  join := fun k v => ((k, ((), (v.1, ()))), (v.2, ()))
  sk := fun t => t.1.1
  sv := fun t => (t.1.2.2.1, t.2.1)
  step := S_im_sets_0
  leaf := fun _ r => .l (.exit 0 (mkSt ({ slots := [3], sh := (.cons (.arr 5) .nil), obs := [(5, .rows 22 3 (.int .i64))] }) (((), ()), (r, ()))))
noncomputable def T_im_sets (a1_ : Int) : Tr ((List Nat) × (List (List (Int)))) :=
  .c (List (List (Int))) (L_im_sets_0 a1_ ((1 : Int), ([] : List (List (Int))))) fun r6_ =>
  .c ((List Nat) × (List (List (Int)))) (F_slices_SortFunc_SSint_Sint (fun h7_ => Option.bind (F_im_compareSets h7_.1 h7_.2.1) fun y8_ => some y8_) ((List.range (List.length r6_)), r6_)) fun r9_ =>
  .l r9_
noncomputable def F_im_sets (a1_ : Int) : Option ((List Nat) × (List (List (Int)))) := (T_im_sets a1_).ev
noncomputable def A_im_sets : Sh := (.cons (.dat (.int .i64)) .nil)
noncomputable def I_im_sets : List (Nat × OSh) := []
noncomputable def K_im_sets : RetK := { acts := [.ren 5 0], res := [.tmp 2], sh := (.cons (.arr 0) .nil), obs := [(0, .perm 22 3 (.int .i64))], pins := [] }
noncomputable def D_im_sets : FD where
  A := A_im_sets
  ins := I_im_sets
  lend := []
  R := (List Nat) × (List (List (Int)))
  F := fun x => F_im_sets x.1.1
  emb := fun r => ([.arr 0], [(0, .perm false 22 3 (.int .i64) r.1 r.2)])
noncomputable def E_im_sets : Env := envOf [(144, D_im_bag_list), (168, D_slices_SortFunc_SSint_Sint), (168, D_slices_SortFunc_SSint_Sint), (169, D_im_compareSets)]
noncomputable def Z_im_sets : Nat → Nat → List Nat := fun r i => match look [(1, [(0, [1000000])]), (6, [(1, [80000017])])] r with
  | some l => (look l i).getD []
  | none => []
noncomputable def O_im_sets : List (Nat × LD) := [(0, DL_im_sets_0)]
noncomputable def C_im_sets : Code := (f118.body).getD .skip
noncomputable def S_slices_DeleteFunc_SSint_Sint_0 (k : (HL [(.slice (.int .i64))] → Option (Bool))) (v : (Int) × ((Int) × ((List Nat) × (List (List (Int)))))) : Tr (((Int) × ((Int) × ((List Nat) × (List (List (Int)))))) ⊕ ((Int) × ((List Nat) × (List (List (Int)))))) :=
  .t (decide (v.2.1 < ((List.length v.2.2.1 : Nat) : Int)))
    (.g (inR v.2.1 (List.length v.2.2.1)) <|
      .g (decide ((Int.toNat v.2.1) < List.length v.2.2.1) && decide ((List.getD v.2.2.1 (Int.toNat v.2.1) 0) < List.length v.2.2.2)) <|
      .c (Bool) (k ((List.getD v.2.2.2 (List.getD v.2.2.1 (Int.toNat v.2.1) 0) ([] : List (Int))), ())) fun r6_ =>
      .t (!r6_)
        (.g (inR v.1 (List.length v.2.2.1)) <|
          .g (decide ((Int.toNat v.1) < List.length v.2.2.1)) <|
          .l (.inl ((IntKind.wrap .i64 (v.1 + (1 : Int))), ((IntKind.wrap .i64 (v.2.1 + (1 : Int))), ((List.set v.2.2.1 (Int.toNat v.1) (List.getD v.2.2.1 (Int.toNat v.2.1) 0)), v.2.2.2)))))
        (.l (.inl (v.1, ((IntKind.wrap .i64 (v.2.1 + (1 : Int))), v.2.2)))))
    (.l (.inr (v.1, v.2.2)))
noncomputable def L_slices_DeleteFunc_SSint_Sint_0 (k : (HL [(.slice (.int .i64))] → Option (Bool))) (v : (Int) × ((Int) × ((List Nat) × (List (List (Int)))))) : Option ((Int) × ((List Nat) × (List (List (Int))))) := iter (fun v => (S_slices_DeleteFunc_SSint_Sint_0 k v).ev) v
noncomputable def DL_slices_DeleteFunc_SSint_Sint_0 : LD where
  head := { acts := [], S := { slots := [0, 1, 5, 6], sh := (.cons (.arr 64) (.cons (.clo [(.slice (.int .i64))] .bool) (.cons (.dat (.int .i64)) (.cons (.dat (.int .i64)) .nil)))), obs := [(64, .perm 22 3 (.int .i64))] } }
  exits := [(0, { acts := [], S := { slots := [0, 5], sh := (.cons (.arr 64) (.cons (.dat (.int .i64)) .nil)), obs := [(64, .perm 22 3 (.int .i64))] } })]
  rets := { acts := [], S := { slots := [], sh := .nil, obs := [] } }
  K := (HL [(.slice (.int .i64))] → Option (Bool))
  V := (Int) × ((Int) × ((List Nat) × (List (List (Int)))))
  R := (Int) × ((List Nat) × (List (List (Int))))
  join := fun k v => (((), (k, (v.1, (v.2.1, ())))), (v.2.2, ()))
  sk := fun t => t.1.2.1
  sv := fun t => (t.1.2.2.1, (t.1.2.2.2.1, t.2.1))
  step := S_slices_DeleteFunc_SSint_Sint_0
  leaf := fun _ r => .l (.exit 0 (mkSt ({ slots := [0, 5], sh := (.cons (.arr 64) (.cons (.dat (.int .i64)) .nil)), obs := [(64, .perm 22 3 (.int .i64))] }) (((), (r.1, ())), (r.2, ()))))
noncomputable def T_slices_DeleteFunc_SSint_Sint (a2_ : (HL [(.slice (.int .i64))] → Option (Bool))) (a1_ : (List Nat) × (List (List (Int)))) : Tr ((List Nat) × (List (List (Int)))) :=
  .c (Int) (F_slices_IndexFunc_SSint_Sint (permL a1_.1 a1_.2) a2_) fun r1_ =>
  .t (r1_ == (-1 : Int))
    (.l a1_)
    (.c ((Int) × ((List Nat) × (List (List (Int))))) (L_slices_DeleteFunc_SSint_Sint_0 a2_ (r1_, ((IntKind.wrap .i64 (r1_ + (1 : Int))), a1_))) fun r9_ =>
      .g (decide ((0 : Int) ≤ r9_.1) && decide (r9_.1 ≤ ((List.length r9_.2.1 : Nat) : Int))) <|
      .g (decide ((0 : Int) ≤ r9_.1) && decide (r9_.1 ≤ ((List.length (List.take (Int.toNat r9_.1) r9_.2.1 ++ List.replicate (List.length r9_.2.1 - (Int.toNat r9_.1)) (List.length r9_.2.2)) : Nat) : Int))) <|
      .l ((List.take (Int.toNat r9_.1) (List.take (Int.toNat r9_.1) r9_.2.1 ++ List.replicate (List.length r9_.2.1 - (Int.toNat r9_.1)) (List.length r9_.2.2))), r9_.2.2))
noncomputable def F_slices_DeleteFunc_SSint_Sint (a2_ : (HL [(.slice (.int .i64))] → Option (Bool))) (a1_ : (List Nat) × (List (List (Int)))) : Option ((List Nat) × (List (List (Int)))) := (T_slices_DeleteFunc_SSint_Sint a2_ a1_).ev
noncomputable def A_slices_DeleteFunc_SSint_Sint : Sh := (.cons (.arr 64) (.cons (.clo [(.slice (.int .i64))] .bool) .nil))
noncomputable def I_slices_DeleteFunc_SSint_Sint : List (Nat × OSh) := [(64, .perm 22 3 (.int .i64))]
noncomputable def K_slices_DeleteFunc_SSint_Sint : RetK := { acts := [.ren 64 0], res := [.tmp 4], sh := (.cons (.arr 0) .nil), obs := [(0, .perm 22 3 (.int .i64))], pins := [], gone := [64] }
noncomputable def D_slices_DeleteFunc_SSint_Sint : FD where
  A := A_slices_DeleteFunc_SSint_Sint
  ins := I_slices_DeleteFunc_SSint_Sint
  lend := [.arg 0]
  R := (List Nat) × (List (List (Int)))
  F := fun x => F_slices_DeleteFunc_SSint_Sint x.1.2.1 x.2.1
  emb := fun r => ([.arr 0], [(0, .perm false 22 3 (.int .i64) r.1 r.2), (64, .spent)])
noncomputable def E_slices_DeleteFunc_SSint_Sint : Env := envOf [(167, D_slices_IndexFunc_SSint_Sint)]
noncomputable def Z_slices_DeleteFunc_SSint_Sint : Nat → Nat → List Nat := fun _ _ => []
noncomputable def O_slices_DeleteFunc_SSint_Sint : List (Nat × LD) := [(0, DL_slices_DeleteFunc_SSint_Sint_0)]
noncomputable def C_slices_DeleteFunc_SSint_Sint : Code := (f117.body).getD .skip
noncomputable def S_im_Field_server_0 (k : (Int) × ((List (Int)) × ((Int) × ((List (Int)) × (List (List (Int))))))) (v : (Int) × (Int)) : Tr (((Int) × (Int)) ⊕ (Int)) :=
  .t (decide (v.2 < k.2.2.1))
    (.g (inR v.2 (List.length k.2.1)) <|
      .g (inR k.1 (List.length k.2.2.2.2)) <|
      .g (inR (List.getD k.2.1 (Int.toNat v.2) (0 : Int)) (List.length (List.getD k.2.2.2.2 (Int.toNat k.1) ([] : List (Int))))) <|
      .g (inR k.1 (List.length k.2.2.2.2)) <|
      .g (inR v.1 (List.length (List.getD k.2.2.2.2 (Int.toNat k.1) ([] : List (Int))))) <|
      .t (decide ((List.getD (List.getD k.2.2.2.2 (Int.toNat k.1) ([] : List (Int))) (Int.toNat (List.getD k.2.1 (Int.toNat v.2) (0 : Int))) (0 : Int)) < (List.getD (List.getD k.2.2.2.2 (Int.toNat k.1) ([] : List (Int))) (Int.toNat v.1) (0 : Int))))
        (.l (.inl ((List.getD k.2.1 (Int.toNat v.2) (0 : Int)), (IntKind.wrap .i64 (v.2 + (1 : Int))))))
        (.l (.inl (v.1, (IntKind.wrap .i64 (v.2 + (1 : Int)))))))
    (.l (.inr v.1))
noncomputable def L_im_Field_server_0 (k : (Int) × ((List (Int)) × ((Int) × ((List (Int)) × (List (List (Int))))))) (v : (Int) × (Int)) : Option (Int) := iter (fun v => (S_im_Field_server_0 k v).ev) v
noncomputable def DL_im_Field_server_0 : LD where
  head := { acts := [], S := { slots := [1, 3, 7, 13, 14, 15], sh := (.cons (.dat (.int .i64)) (.cons (.box 3 0) (.cons (.dat (.int .i64)) (.cons (.dat (.slice (.int .i64))) (.cons (.dat (.int .i64)) (.cons (.dat (.int .i64)) .nil)))))), obs := [(3, .cells (.cons (.dat (.slice (.int .i64))) (.cons (.dat (.slice (.slice (.int .i64)))) .nil)))] } }
  exits := [(0, { acts := [], S := { slots := [7], sh := (.cons (.dat (.int .i64)) .nil), obs := [] } })]
  rets := { acts := [], S := { slots := [], sh := .nil, obs := [] } }
  K := (Int) × ((List (Int)) × ((Int) × ((List (Int)) × (List (List (Int))))))
  V := (Int) × (Int)
  R := Int
  join := fun k v => ((k.1, ((), (v.1, (k.2.1, (k.2.2.1, (v.2, ())))))), ((k.2.2.2.1, (k.2.2.2.2, ())), ()))
  sk := fun t => (t.1.1, (t.1.2.2.2.1, (t.1.2.2.2.2.1, (t.2.1.1, t.2.1.2.1))))
  sv := fun t => (t.1.2.2.1, t.1.2.2.2.2.2.1)
  step := S_im_Field_server_0
  leaf := fun _ r => .l (.exit 0 (mkSt ({ slots := [7], sh := (.cons (.dat (.int .i64)) .nil), obs := [] }) ((r, ()), ())))
noncomputable def T_im_Field_server (a1_ : List (Int)) (a2_ : List (List (Int))) (a3_ : Int) (a4_ : List (Int)) : Tr (Int) :=
  .g (inR (0 : Int) (List.length a4_)) <|
  .c (Int) (L_im_Field_server_0 (a3_, (a4_, (((List.length a4_ : Nat) : Int), (a1_, a2_)))) ((List.getD a4_ (Int.toNat (0 : Int)) (0 : Int)), (0 : Int))) fun r9_ =>
  .l r9_
noncomputable def F_im_Field_server (a1_ : List (Int)) (a2_ : List (List (Int))) (a3_ : Int) (a4_ : List (Int)) : Option (Int) := (T_im_Field_server a1_ a2_ a3_ a4_).ev
noncomputable def A_im_Field_server : Sh := (.cons (.agg (.cons (.dat (.slice (.int .i64))) (.cons (.dat (.slice (.slice (.int .i64)))) .nil))) (.cons (.dat (.int .i64)) (.cons (.dat (.slice (.int .i64))) .nil)))
noncomputable def I_im_Field_server : List (Nat × OSh) := []
noncomputable def K_im_Field_server : RetK := { acts := [], res := [.tmp 6], sh := (.cons (.dat (.int .i64)) .nil), obs := [], pins := [] }
noncomputable def D_im_Field_server : FD where
  A := A_im_Field_server
  ins := I_im_Field_server
  lend := []
  R := Int
  F := fun x => F_im_Field_server x.1.1.1 x.1.1.2.1 x.1.2.1 x.1.2.2.1
  emb := fun r => ([.dat (.int .i64) r], [])
noncomputable def E_im_Field_server : Env := envOf []
noncomputable def Z_im_Field_server : Nat → Nat → List Nat := fun _ _ => []
noncomputable def O_im_Field_server : List (Nat × LD) := [(0, DL_im_Field_server_0)]
noncomputable def C_im_Field_server : Code := (f172.body).getD .skip
noncomputable def S_im_Field_served_0 (k : (List (Int)) × ((Int) × ((List (Int)) × (List (List (Int)))))) (v : (Int) × (List (Int))) : Tr (((Int) × (List (Int))) ⊕ (List (Int))) :=
  .t (decide (v.1 < k.2.1))
    (.c (Int) (F_im_Field_server k.2.2.1 k.2.2.2 v.1 k.1) fun r7_ =>
      .g (decide ((List.length v.2 + List.length ([r7_] : List (Int))) * 8 ≤ 140737488355328)) <|
      .l (.inl ((IntKind.wrap .i64 (v.1 + (1 : Int))), (v.2 ++ ([r7_] : List (Int))))))
    (.l (.inr v.2))
noncomputable def L_im_Field_served_0 (k : (List (Int)) × ((Int) × ((List (Int)) × (List (List (Int)))))) (v : (Int) × (List (Int))) : Option (List (Int)) := iter (fun v => (S_im_Field_served_0 k v).ev) v
noncomputable def DL_im_Field_served_0 : LD where
  head := { acts := [], S := { slots := [1, 2, 5, 10, 11], sh := (.cons (.dat (.slice (.int .i64))) (.cons (.box 2 0) (.cons (.arr 7) (.cons (.dat (.int .i64)) (.cons (.dat (.int .i64)) .nil))))), obs := [(2, .cells (.cons (.dat (.slice (.int .i64))) (.cons (.dat (.slice (.slice (.int .i64)))) .nil))), (7, .arr 3 (.int .i64))] } }
  exits := [(0, { acts := [], S := { slots := [5], sh := (.cons (.arr 7) .nil), obs := [(7, .arr 3 (.int .i64))] } })]
  rets := { acts := [], S := { slots := [], sh := .nil, obs := [] } }
  K := (List (Int)) × ((Int) × ((List (Int)) × (List (List (Int)))))
  V := (Int) × (List (Int))
  R := List (Int)
  join := fun k v => ((k.1, ((), ((), (k.2.1, (v.1, ()))))), ((k.2.2.1, (k.2.2.2, ())), (v.2, ())))
  sk := fun t => (t.1.1, (t.1.2.2.2.1, (t.2.1.1, t.2.1.2.1)))
  sv := fun t => (t.1.2.2.2.2.1, t.2.2.1)
  step := S_im_Field_served_0
  leaf := fun _ r => .l (.exit 0 (mkSt ({ slots := [5], sh := (.cons (.arr 7) .nil), obs := [(7, .arr 3 (.int .i64))] }) (((), ()), (r, ()))))
noncomputable def T_im_Field_served (a1_ : List (Int)) (a2_ : List (List (Int))) (a3_ : List (Int)) : Tr (List (Int)) :=
  .c (List (Int)) (L_im_Field_served_0 (a3_, (((List.length a2_ : Nat) : Int), (a1_, a2_))) ((0 : Int), ([] : List (Int)))) fun r9_ =>
  .l r9_
noncomputable def F_im_Field_served (a1_ : List (Int)) (a2_ : List (List (Int))) (a3_ : List (Int)) : Option (List (Int)) := (T_im_Field_served a1_ a2_ a3_).ev
noncomputable def A_im_Field_served : Sh := (.cons (.agg (.cons (.dat (.slice (.int .i64))) (.cons (.dat (.slice (.slice (.int .i64)))) .nil))) (.cons (.dat (.slice (.int .i64))) .nil))
noncomputable def I_im_Field_served : List (Nat × OSh) := []
noncomputable def K_im_Field_served : RetK := { acts := [.ren 7 0], res := [.tmp 4], sh := (.cons (.arr 0) .nil), obs := [(0, .arr 3 (.int .i64))], pins := [] }
noncomputable def D_im_Field_served : FD where
  A := A_im_Field_served
  ins := I_im_Field_served
  lend := []
  R := List (Int)
  F := fun x => F_im_Field_served x.1.1.1 x.1.1.2.1 x.1.2.1
  emb := fun r => ([.arr 0], [(0, .arr 3 (.int .i64) r)])
noncomputable def E_im_Field_served : Env := envOf [(172, D_im_Field_server)]
noncomputable def Z_im_Field_served : Nat → Nat → List Nat := fun _ _ => []
noncomputable def O_im_Field_served : List (Nat × LD) := [(0, DL_im_Field_served_0)]
noncomputable def C_im_Field_served : Code := (f127.body).getD .skip
noncomputable def S_im_Field_lengths_0 (k : (Int) × ((List (Int)) × ((List (List (Int))) × (List (Int))))) (v : (Int) × (List (Int))) : Tr (((Int) × (List (Int))) ⊕ (List (Int))) :=
  .t (decide (v.1 < k.1))
    (.g (inR v.1 (List.length k.2.2.2)) <|
      .g (decide ((Int.toNat v.1) < List.length k.2.2.2)) <|
      .g (inR v.1 (List.length k.2.2.1)) <|
      .g (inR (List.getD k.2.2.2 (Int.toNat v.1) (0 : Int)) (List.length (List.getD k.2.2.1 (Int.toNat v.1) ([] : List (Int))))) <|
      .g (decide ((List.length v.2 + List.length ([(List.getD (List.getD k.2.2.1 (Int.toNat v.1) ([] : List (Int))) (Int.toNat (List.getD k.2.2.2 (Int.toNat v.1) (0 : Int))) (0 : Int))] : List (Int))) * 8 ≤ 140737488355328)) <|
      .l (.inl ((IntKind.wrap .i64 (v.1 + (1 : Int))), (v.2 ++ ([(List.getD (List.getD k.2.2.1 (Int.toNat v.1) ([] : List (Int))) (Int.toNat (List.getD k.2.2.2 (Int.toNat v.1) (0 : Int))) (0 : Int))] : List (Int))))))
    (.l (.inr v.2))
noncomputable def L_im_Field_lengths_0 (k : (Int) × ((List (Int)) × ((List (List (Int))) × (List (Int))))) (v : (Int) × (List (Int))) : Option (List (Int)) := iter (fun v => (S_im_Field_lengths_0 k v).ev) v
noncomputable def DL_im_Field_lengths_0 : LD where
  head := { acts := [], S := { slots := [2, 5, 11, 12, 13], sh := (.cons (.box 2 0) (.cons (.arr 8) (.cons (.arr 704) (.cons (.dat (.int .i64)) (.cons (.dat (.int .i64)) .nil))))), obs := [(2, .cells (.cons (.dat (.slice (.int .i64))) (.cons (.dat (.slice (.slice (.int .i64)))) .nil))), (8, .arr 3 (.int .i64)), (704, .arr 3 (.int .i64))] } }
  exits := [(0, { acts := [], S := { slots := [5], sh := (.cons (.arr 8) .nil), obs := [(8, .arr 3 (.int .i64))] } })]
  rets := { acts := [], S := { slots := [], sh := .nil, obs := [] } }
  K := (Int) × ((List (Int)) × ((List (List (Int))) × (List (Int))))
  V := (Int) × (List (Int))
  R := List (Int)
  join := fun k v => (((), ((), ((), (k.1, (v.1, ()))))), ((k.2.1, (k.2.2.1, ())), (v.2, (k.2.2.2, ()))))
  sk := fun t => (t.1.2.2.2.1, (t.2.1.1, (t.2.1.2.1, t.2.2.2.1)))
  sv := fun t => (t.1.2.2.2.2.1, t.2.2.1)
  step := S_im_Field_lengths_0
  leaf := fun _ r => .l (.exit 0 (mkSt ({ slots := [5], sh := (.cons (.arr 8) .nil), obs := [(8, .arr 3 (.int .i64))] }) (((), ()), (r, ()))))
noncomputable def T_im_Field_lengths (a1_ : List (Int)) (a2_ : List (List (Int))) (a3_ : List (Int)) : Tr (List (Int)) :=
  .c (List (Int)) (F_im_Field_served a1_ a2_ a3_) fun r1_ =>
  .c (List (Int)) (L_im_Field_lengths_0 (((List.length r1_ : Nat) : Int), (a1_, (a2_, r1_))) ((0 : Int), ([] : List (Int)))) fun r9_ =>
  .l r9_
noncomputable def F_im_Field_lengths (a1_ : List (Int)) (a2_ : List (List (Int))) (a3_ : List (Int)) : Option (List (Int)) := (T_im_Field_lengths a1_ a2_ a3_).ev
noncomputable def A_im_Field_lengths : Sh := (.cons (.agg (.cons (.dat (.slice (.int .i64))) (.cons (.dat (.slice (.slice (.int .i64)))) .nil))) (.cons (.dat (.slice (.int .i64))) .nil))
noncomputable def I_im_Field_lengths : List (Nat × OSh) := []
noncomputable def K_im_Field_lengths : RetK := { acts := [.ren 8 0], res := [.tmp 4], sh := (.cons (.arr 0) .nil), obs := [(0, .arr 3 (.int .i64))], pins := [] }
noncomputable def D_im_Field_lengths : FD where
  A := A_im_Field_lengths
  ins := I_im_Field_lengths
  lend := []
  R := List (Int)
  F := fun x => F_im_Field_lengths x.1.1.1 x.1.1.2.1 x.1.2.1
  emb := fun r => ([.arr 0], [(0, .arr 3 (.int .i64) r)])
noncomputable def E_im_Field_lengths : Env := envOf [(127, D_im_Field_served)]
noncomputable def Z_im_Field_lengths : Nat → Nat → List Nat := fun _ _ => []
noncomputable def O_im_Field_lengths : List (Nat × LD) := [(0, DL_im_Field_lengths_0)]
noncomputable def C_im_Field_lengths : Code := (f156.body).getD .skip
noncomputable def S_im_sum_0 (k : (List (Int)) × (Int)) (v : (Int) × (Int)) : Tr (((Int) × (Int)) ⊕ (Int)) :=
  .t (decide (v.2 < k.2))
    (.g (inR v.2 (List.length k.1)) <|
      .l (.inl ((IntKind.wrap .i64 (v.1 + (List.getD k.1 (Int.toNat v.2) (0 : Int)))), (IntKind.wrap .i64 (v.2 + (1 : Int))))))
    (.l (.inr v.1))
noncomputable def L_im_sum_0 (k : (List (Int)) × (Int)) (v : (Int) × (Int)) : Option (Int) := iter (fun v => (S_im_sum_0 k v).ev) v
noncomputable def DL_im_sum_0 : LD where
  head := { acts := [], S := { slots := [3, 6, 7, 8], sh := (.cons (.dat (.int .i64)) (.cons (.dat (.slice (.int .i64))) (.cons (.dat (.int .i64)) (.cons (.dat (.int .i64)) .nil)))), obs := [] } }
  exits := [(0, { acts := [], S := { slots := [3], sh := (.cons (.dat (.int .i64)) .nil), obs := [] } })]
  rets := { acts := [], S := { slots := [], sh := .nil, obs := [] } }
  K := (List (Int)) × (Int)
  V := (Int) × (Int)
  R := Int
  join := fun k v => ((v.1, (k.1, (k.2, (v.2, ())))), ())
  sk := fun t => (t.1.2.1, t.1.2.2.1)
  sv := fun t => (t.1.1, t.1.2.2.2.1)
  step := S_im_sum_0
  leaf := fun _ r => .l (.exit 0 (mkSt ({ slots := [3], sh := (.cons (.dat (.int .i64)) .nil), obs := [] }) ((r, ()), ())))
noncomputable def T_im_sum (a1_ : List (Int)) : Tr (Int) :=
  .c (Int) (L_im_sum_0 (a1_, ((List.length a1_ : Nat) : Int)) ((0 : Int), (0 : Int))) fun r6_ =>
  .l r6_
noncomputable def F_im_sum (a1_ : List (Int)) : Option (Int) := (T_im_sum a1_).ev
noncomputable def A_im_sum : Sh := (.cons (.dat (.slice (.int .i64))) .nil)
noncomputable def I_im_sum : List (Nat × OSh) := []
noncomputable def K_im_sum : RetK := { acts := [], res := [.tmp 2], sh := (.cons (.dat (.int .i64)) .nil), obs := [], pins := [] }
noncomputable def D_im_sum : FD where
  A := A_im_sum
  ins := I_im_sum
  lend := []
  R := Int
  F := fun x => F_im_sum x.1.1
  emb := fun r => ([.dat (.int .i64) r], [])
noncomputable def E_im_sum : Env := envOf []
noncomputable def Z_im_sum : Nat → Nat → List Nat := fun _ _ => []
noncomputable def O_im_sum : List (Nat × LD) := [(0, DL_im_sum_0)]
noncomputable def C_im_sum : Code := (f98.body).getD .skip
noncomputable def T_im_Field_service (a1_ : List (Int)) (a2_ : List (List (Int))) (a3_ : List (Int)) : Tr (Int) :=
  .c (List (Int)) (F_im_Field_lengths a1_ a2_ a3_) fun r1_ =>
  .c (Int) (F_im_sum r1_) fun r2_ =>
  .l r2_
noncomputable def F_im_Field_service (a1_ : List (Int)) (a2_ : List (List (Int))) (a3_ : List (Int)) : Option (Int) := (T_im_Field_service a1_ a2_ a3_).ev
noncomputable def A_im_Field_service : Sh := (.cons (.agg (.cons (.dat (.slice (.int .i64))) (.cons (.dat (.slice (.slice (.int .i64)))) .nil))) (.cons (.dat (.slice (.int .i64))) .nil))
noncomputable def I_im_Field_service : List (Nat × OSh) := []
noncomputable def K_im_Field_service : RetK := { acts := [], res := [.tmp 4], sh := (.cons (.dat (.int .i64)) .nil), obs := [], pins := [] }
noncomputable def D_im_Field_service : FD where
  A := A_im_Field_service
  ins := I_im_Field_service
  lend := []
  R := Int
  F := fun x => F_im_Field_service x.1.1.1 x.1.1.2.1 x.1.2.1
  emb := fun r => ([.dat (.int .i64) r], [])
noncomputable def E_im_Field_service : Env := envOf [(156, D_im_Field_lengths), (98, D_im_sum)]
noncomputable def Z_im_Field_service : Nat → Nat → List Nat := fun _ _ => []
noncomputable def O_im_Field_service : List (Nat × LD) := []
noncomputable def C_im_Field_service : Code := (f110.body).getD .skip
noncomputable def S_im_Field_payment_0 (k : (List (Int)) × ((Int) × ((List (Int)) × (List (List (Int)))))) (v : (Int) × (Int)) : Tr (((Int) × (Int)) ⊕ (Int)) :=
  .t (decide (v.2 < k.2.1))
    (.g (inR v.2 (List.length k.1)) <|
      .g (inR (List.getD k.1 (Int.toNat v.2) (0 : Int)) (List.length k.2.2.1)) <|
      .l (.inl ((IntKind.wrap .i64 (v.1 + (List.getD k.2.2.1 (Int.toNat (List.getD k.1 (Int.toNat v.2) (0 : Int))) (0 : Int)))), (IntKind.wrap .i64 (v.2 + (1 : Int))))))
    (.l (.inr v.1))
noncomputable def L_im_Field_payment_0 (k : (List (Int)) × ((Int) × ((List (Int)) × (List (List (Int)))))) (v : (Int) × (Int)) : Option (Int) := iter (fun v => (S_im_Field_payment_0 k v).ev) v
noncomputable def DL_im_Field_payment_0 : LD where
  head := { acts := [], S := { slots := [2, 5, 8, 9, 10], sh := (.cons (.box 2 0) (.cons (.dat (.int .i64)) (.cons (.dat (.slice (.int .i64))) (.cons (.dat (.int .i64)) (.cons (.dat (.int .i64)) .nil))))), obs := [(2, .cells (.cons (.dat (.slice (.int .i64))) (.cons (.dat (.slice (.slice (.int .i64)))) .nil)))] } }
  exits := [(0, { acts := [], S := { slots := [5], sh := (.cons (.dat (.int .i64)) .nil), obs := [] } })]
  rets := { acts := [], S := { slots := [], sh := .nil, obs := [] } }
  K := (List (Int)) × ((Int) × ((List (Int)) × (List (List (Int)))))
  V := (Int) × (Int)
  R := Int
  join := fun k v => (((), (v.1, (k.1, (k.2.1, (v.2, ()))))), ((k.2.2.1, (k.2.2.2, ())), ()))
  sk := fun t => (t.1.2.2.1, (t.1.2.2.2.1, (t.2.1.1, t.2.1.2.1)))
  sv := fun t => (t.1.2.1, t.1.2.2.2.2.1)
  step := S_im_Field_payment_0
  leaf := fun _ r => .l (.exit 0 (mkSt ({ slots := [5], sh := (.cons (.dat (.int .i64)) .nil), obs := [] }) ((r, ()), ())))
noncomputable def T_im_Field_payment (a1_ : List (Int)) (a2_ : List (List (Int))) (a3_ : List (Int)) : Tr (Int) :=
  .c (Int) (L_im_Field_payment_0 (a3_, (((List.length a3_ : Nat) : Int), (a1_, a2_))) ((0 : Int), (0 : Int))) fun r8_ =>
  .l r8_
noncomputable def F_im_Field_payment (a1_ : List (Int)) (a2_ : List (List (Int))) (a3_ : List (Int)) : Option (Int) := (T_im_Field_payment a1_ a2_ a3_).ev
noncomputable def A_im_Field_payment : Sh := (.cons (.agg (.cons (.dat (.slice (.int .i64))) (.cons (.dat (.slice (.slice (.int .i64)))) .nil))) (.cons (.dat (.slice (.int .i64))) .nil))
noncomputable def I_im_Field_payment : List (Nat × OSh) := []
noncomputable def K_im_Field_payment : RetK := { acts := [], res := [.tmp 4], sh := (.cons (.dat (.int .i64)) .nil), obs := [], pins := [] }
noncomputable def D_im_Field_payment : FD where
  A := A_im_Field_payment
  ins := I_im_Field_payment
  lend := []
  R := Int
  F := fun x => F_im_Field_payment x.1.1.1 x.1.1.2.1 x.1.2.1
  emb := fun r => ([.dat (.int .i64) r], [])
noncomputable def E_im_Field_payment : Env := envOf []
noncomputable def Z_im_Field_payment : Nat → Nat → List Nat := fun _ _ => []
noncomputable def O_im_Field_payment : List (Nat × LD) := [(0, DL_im_Field_payment_0)]
noncomputable def C_im_Field_payment : Code := (f125.body).getD .skip
noncomputable def T_im_Field_total (a1_ : List (Int)) (a2_ : List (List (Int))) (a3_ : List (Int)) : Tr (Int) :=
  .c (Int) (F_im_Field_payment a1_ a2_ a3_) fun r1_ =>
  .c (Int) (F_im_Field_service a1_ a2_ a3_) fun r2_ =>
  .l (IntKind.wrap .i64 (r1_ + r2_))
noncomputable def F_im_Field_total (a1_ : List (Int)) (a2_ : List (List (Int))) (a3_ : List (Int)) : Option (Int) := (T_im_Field_total a1_ a2_ a3_).ev
noncomputable def A_im_Field_total : Sh := (.cons (.agg (.cons (.dat (.slice (.int .i64))) (.cons (.dat (.slice (.slice (.int .i64)))) .nil))) (.cons (.dat (.slice (.int .i64))) .nil))
noncomputable def I_im_Field_total : List (Nat × OSh) := []
noncomputable def K_im_Field_total : RetK := { acts := [], res := [.tmp 4], sh := (.cons (.dat (.int .i64)) .nil), obs := [], pins := [] }
noncomputable def D_im_Field_total : FD where
  A := A_im_Field_total
  ins := I_im_Field_total
  lend := []
  R := Int
  F := fun x => F_im_Field_total x.1.1.1 x.1.1.2.1 x.1.2.1
  emb := fun r => ([.dat (.int .i64) r], [])
noncomputable def E_im_Field_total : Env := envOf [(125, D_im_Field_payment), (110, D_im_Field_service)]
noncomputable def Z_im_Field_total : Nat → Nat → List Nat := fun _ _ => []
noncomputable def O_im_Field_total : List (Nat × LD) := []
noncomputable def C_im_Field_total : Code := (f130.body).getD .skip
noncomputable def S_slices_Max_Sint_int_0 (k : List (Int)) (v : (Int) × (Int)) : Tr (((Int) × (Int)) ⊕ (Int)) :=
  .t (decide (v.2 < ((List.length k : Nat) : Int)))
    (.g (inR v.2 (List.length k)) <|
      .l (.inl ((if v.1 < (List.getD k (Int.toNat v.2) (0 : Int)) then (List.getD k (Int.toNat v.2) (0 : Int)) else v.1), (IntKind.wrap .i64 (v.2 + (1 : Int))))))
    (.l (.inr v.1))
noncomputable def L_slices_Max_Sint_int_0 (k : List (Int)) (v : (Int) × (Int)) : Option (Int) := iter (fun v => (S_slices_Max_Sint_int_0 k v).ev) v
noncomputable def DL_slices_Max_Sint_int_0 : LD where
  head := { acts := [], S := { slots := [0, 3, 4], sh := (.cons (.dat (.slice (.int .i64))) (.cons (.dat (.int .i64)) (.cons (.dat (.int .i64)) .nil))), obs := [] } }
  exits := [(0, { acts := [], S := { slots := [3], sh := (.cons (.dat (.int .i64)) .nil), obs := [] } })]
  rets := { acts := [], S := { slots := [], sh := .nil, obs := [] } }
  K := List (Int)
  V := (Int) × (Int)
  R := Int
  join := fun k v => ((k, (v.1, (v.2, ()))), ())
  sk := fun t => t.1.1
  sv := fun t => (t.1.2.1, t.1.2.2.1)
  step := S_slices_Max_Sint_int_0
  leaf := fun _ r => .l (.exit 0 (mkSt ({ slots := [3], sh := (.cons (.dat (.int .i64)) .nil), obs := [] }) ((r, ()), ())))
noncomputable def T_slices_Max_Sint_int (a1_ : List (Int)) : Tr (Int) :=
  .t (decide (((List.length a1_ : Nat) : Int) < (1 : Int)))
    (.f)
    (.g (inR (0 : Int) (List.length a1_)) <|
      .c (Int) (L_slices_Max_Sint_int_0 a1_ ((List.getD a1_ (Int.toNat (0 : Int)) (0 : Int)), (1 : Int))) fun r5_ =>
      .l r5_)
noncomputable def F_slices_Max_Sint_int (a1_ : List (Int)) : Option (Int) := (T_slices_Max_Sint_int a1_).ev
noncomputable def A_slices_Max_Sint_int : Sh := (.cons (.dat (.slice (.int .i64))) .nil)
noncomputable def I_slices_Max_Sint_int : List (Nat × OSh) := []
noncomputable def K_slices_Max_Sint_int : RetK := { acts := [], res := [.tmp 2], sh := (.cons (.dat (.int .i64)) .nil), obs := [], pins := [] }
noncomputable def D_slices_Max_Sint_int : FD where
  A := A_slices_Max_Sint_int
  ins := I_slices_Max_Sint_int
  lend := []
  R := Int
  F := fun x => F_slices_Max_Sint_int x.1.1
  emb := fun r => ([.dat (.int .i64) r], [])
noncomputable def E_slices_Max_Sint_int : Env := envOf []
noncomputable def Z_slices_Max_Sint_int : Nat → Nat → List Nat := fun _ _ => []
noncomputable def O_slices_Max_Sint_int : List (Nat × LD) := [(0, DL_slices_Max_Sint_int_0)]
noncomputable def C_slices_Max_Sint_int : Code := (f146.body).getD .skip
noncomputable def T_im_Field_reach (a1_ : List (Int)) (a2_ : List (List (Int))) (a3_ : List (Int)) : Tr (Int) :=
  .c (List (Int)) (F_im_Field_lengths a1_ a2_ a3_) fun r1_ =>
  .g (decide ((List.length r1_ + List.length ([(0 : Int)] : List (Int))) * 8 ≤ 140737488355328)) <|
  .c (Int) (F_slices_Max_Sint_int (r1_ ++ ([(0 : Int)] : List (Int)))) fun r2_ =>
  .l r2_
noncomputable def F_im_Field_reach (a1_ : List (Int)) (a2_ : List (List (Int))) (a3_ : List (Int)) : Option (Int) := (T_im_Field_reach a1_ a2_ a3_).ev
noncomputable def A_im_Field_reach : Sh := (.cons (.agg (.cons (.dat (.slice (.int .i64))) (.cons (.dat (.slice (.slice (.int .i64)))) .nil))) (.cons (.dat (.slice (.int .i64))) .nil))
noncomputable def I_im_Field_reach : List (Nat × OSh) := []
noncomputable def K_im_Field_reach : RetK := { acts := [], res := [.tmp 4], sh := (.cons (.dat (.int .i64)) .nil), obs := [], pins := [] }
noncomputable def D_im_Field_reach : FD where
  A := A_im_Field_reach
  ins := I_im_Field_reach
  lend := []
  R := Int
  F := fun x => F_im_Field_reach x.1.1.1 x.1.1.2.1 x.1.2.1
  emb := fun r => ([.dat (.int .i64) r], [])
noncomputable def E_im_Field_reach : Env := envOf [(156, D_im_Field_lengths), (146, D_slices_Max_Sint_int)]
noncomputable def Z_im_Field_reach : Nat → Nat → List Nat := fun _ _ => []
noncomputable def O_im_Field_reach : List (Nat × LD) := []
noncomputable def C_im_Field_reach : Code := (f170.body).getD .skip
noncomputable def T_im_Field_value (a1_ : List (Int)) (a2_ : List (List (Int))) (a3_ : List (Int)) (a4_ : Int) : Tr (Int) :=
  .t (a4_ == (1 : Int))
    (.c (Int) (F_im_Field_service a1_ a2_ a3_) fun r1_ =>
      .l r1_)
    (.t (a4_ == (2 : Int))
        (.c (Int) (F_im_Field_payment a1_ a2_ a3_) fun r2_ =>
          .l r2_)
        (.t (a4_ == (3 : Int))
            (.c (Int) (F_im_Field_total a1_ a2_ a3_) fun r3_ =>
              .l r3_)
            (.t (a4_ == (4 : Int))
                (.c (Int) (F_im_Field_reach a1_ a2_ a3_) fun r4_ =>
                  .l r4_)
                (.l ((List.length a3_ : Nat) : Int)))))
noncomputable def F_im_Field_value (a1_ : List (Int)) (a2_ : List (List (Int))) (a3_ : List (Int)) (a4_ : Int) : Option (Int) := (T_im_Field_value a1_ a2_ a3_ a4_).ev
noncomputable def A_im_Field_value : Sh := (.cons (.agg (.cons (.dat (.slice (.int .i64))) (.cons (.dat (.slice (.slice (.int .i64)))) .nil))) (.cons (.dat (.slice (.int .i64))) (.cons (.dat (.int .i64)) .nil)))
noncomputable def I_im_Field_value : List (Nat × OSh) := []
noncomputable def K_im_Field_value : RetK := { acts := [], res := [.tmp 6], sh := (.cons (.dat (.int .i64)) .nil), obs := [], pins := [] }
noncomputable def D_im_Field_value : FD where
  A := A_im_Field_value
  ins := I_im_Field_value
  lend := []
  R := Int
  F := fun x => F_im_Field_value x.1.1.1 x.1.1.2.1 x.1.2.1 x.1.2.2.1
  emb := fun r => ([.dat (.int .i64) r], [])
noncomputable def E_im_Field_value : Env := envOf [(110, D_im_Field_service), (125, D_im_Field_payment), (130, D_im_Field_total), (170, D_im_Field_reach)]
noncomputable def Z_im_Field_value : Nat → Nat → List Nat := fun _ _ => []
noncomputable def O_im_Field_value : List (Nat × LD) := []
noncomputable def C_im_Field_value : Code := (f120.body).getD .skip
noncomputable def T_im_BestUnder_1 (a1_ : List (Int)) (a2_ : List (Int)) (a3_ : List (List (Int))) (a4_ : Int) (a5_ : Int) : Tr (Bool) :=
  .c (Int) (F_im_Field_value a2_ a3_ a1_ a4_) fun r1_ =>
  .l (decide (a5_ < r1_))
noncomputable def F_im_BestUnder_1 (a1_ : List (Int)) (a2_ : List (Int)) (a3_ : List (List (Int))) (a4_ : Int) (a5_ : Int) : Option (Bool) := (T_im_BestUnder_1 a1_ a2_ a3_ a4_ a5_).ev
noncomputable def A_im_BestUnder_1 : Sh := (.cons (.dat (.slice (.int .i64))) (.cons (.ptr (.cons (.dat (.slice (.int .i64))) (.cons (.dat (.slice (.slice (.int .i64)))) .nil))) (.cons (.ptr (.cons (.dat (.int .i64)) .nil)) (.cons (.ptr (.cons (.dat (.int .i64)) .nil)) .nil))))
noncomputable def I_im_BestUnder_1 : List (Nat × OSh) := []
noncomputable def K_im_BestUnder_1 : RetK := { acts := [], res := [.tmp 5], sh := (.cons (.dat .bool) .nil), obs := [], pins := [] }
noncomputable def D_im_BestUnder_1 : FD where
  A := A_im_BestUnder_1
  ins := I_im_BestUnder_1
  lend := []
  R := Bool
  F := fun x => F_im_BestUnder_1 x.1.1 x.1.2.1.1 x.1.2.1.2.1 x.1.2.2.1.1 x.1.2.2.2.1.1
  emb := fun r => ([.dat .bool r], [])
noncomputable def E_im_BestUnder_1 : Env := envOf [(120, D_im_Field_value)]
noncomputable def Z_im_BestUnder_1 : Nat → Nat → List Nat := fun _ _ => []
noncomputable def O_im_BestUnder_1 : List (Nat × LD) := []
noncomputable def C_im_BestUnder_1 : Code := (f119.body).getD .skip
noncomputable def S_im_least_0 (k : ((HL [(.slice (.int .i64))] → Option (Int))) × ((Int) × ((List Nat) × (List (List (Int)))))) (v : (Nat) × (Int)) : Tr (((Nat) × (Int)) ⊕ (Nat)) :=
  .t (decide (v.2 < k.2.1))
    (.g (inR v.2 (List.length k.2.2.1)) <|
      .g (decide ((Int.toNat v.2) < List.length k.2.2.1) && decide ((List.getD k.2.2.1 (Int.toNat v.2) 0) < List.length k.2.2.2)) <|
      .c (Int) (k.1 ((List.getD k.2.2.2 (List.getD k.2.2.1 (Int.toNat v.2) 0) ([] : List (Int))), ())) fun r6_ =>
      .c (Int) (k.1 ((List.getD k.2.2.2 v.1 ([] : List (Int))), ())) fun r7_ =>
      .t (decide (r6_ < r7_))
        (.l (.inl ((List.getD k.2.2.1 (Int.toNat v.2) 0), (IntKind.wrap .i64 (v.2 + (1 : Int))))))
        (.l (.inl (v.1, (IntKind.wrap .i64 (v.2 + (1 : Int)))))))
    (.l (.inr v.1))
noncomputable def L_im_least_0 (k : ((HL [(.slice (.int .i64))] → Option (Int))) × ((Int) × ((List Nat) × (List (List (Int)))))) (v : (Nat) × (Int)) : Option (Nat) := iter (fun v => (S_im_least_0 k v).ev) v
noncomputable def DL_im_least_0 : LD where
  head := { acts := [], S := { slots := [0, 1, 5, 11, 12, 13], sh := (.cons (.arr 64) (.cons (.clo [(.slice (.int .i64))] (.int .i64)) (.cons (.row 64) (.cons (.arr 64) (.cons (.dat (.int .i64)) (.cons (.dat (.int .i64)) .nil)))))), obs := [(64, .perm 22 3 (.int .i64))] } }
  exits := [(0, { acts := [], S := { slots := [0, 5], sh := (.cons (.arr 64) (.cons (.row 64) .nil)), obs := [(64, .perm 22 3 (.int .i64))] } })]
  rets := { acts := [], S := { slots := [], sh := .nil, obs := [] } }
  K := ((HL [(.slice (.int .i64))] → Option (Int))) × ((Int) × ((List Nat) × (List (List (Int)))))
  V := (Nat) × (Int)
  R := Nat
  join := fun k v => (((), (k.1, (v.1, ((), (k.2.1, (v.2, ())))))), (k.2.2, ()))
  sk := fun t => (t.1.2.1, (t.1.2.2.2.2.1, t.2.1))
  sv := fun t => (t.1.2.2.1, t.1.2.2.2.2.2.1)
  step := S_im_least_0
  leaf := fun k r => .l (.exit 0 (mkSt ({ slots := [0, 5], sh := (.cons (.arr 64) (.cons (.row 64) .nil)), obs := [(64, .perm 22 3 (.int .i64))] }) (((), (r, ())), (k.2.2, ()))))
noncomputable def T_im_least (a2_ : (HL [(.slice (.int .i64))] → Option (Int))) (a1_ : (List Nat) × (List (List (Int)))) : Tr (List (Int)) :=
  .g (inR (0 : Int) (List.length a1_.1)) <|
  .g (decide ((Int.toNat (0 : Int)) < List.length a1_.1) && decide ((List.getD a1_.1 (Int.toNat (0 : Int)) 0) < List.length a1_.2)) <|
  .c (Nat) (L_im_least_0 (a2_, (((List.length a1_.1 : Nat) : Int), a1_)) ((List.getD a1_.1 (Int.toNat (0 : Int)) 0), (0 : Int))) fun r10_ =>
  .l (List.getD a1_.2 r10_ ([] : List (Int)))
noncomputable def F_im_least (a2_ : (HL [(.slice (.int .i64))] → Option (Int))) (a1_ : (List Nat) × (List (List (Int)))) : Option (List (Int)) := (T_im_least a2_ a1_).ev
noncomputable def A_im_least : Sh := (.cons (.arr 64) (.cons (.clo [(.slice (.int .i64))] (.int .i64)) .nil))
noncomputable def I_im_least : List (Nat × OSh) := [(64, .perm 22 3 (.int .i64))]
noncomputable def K_im_least : RetK := { acts := [.pull 4 800000, .ren 800000 0], res := [.tmp 4], sh := (.cons (.arr 0) .nil), obs := [(0, .arr 3 (.int .i64))], pins := [], gone := [64] }
noncomputable def D_im_least : FD where
  A := A_im_least
  ins := I_im_least
  lend := [.arg 0]
  R := List (Int)
  F := fun x => F_im_least x.1.2.1 x.2.1
  emb := fun r => ([.arr 0], [(0, .arr 3 (.int .i64) r), (64, .spent)])
noncomputable def E_im_least : Env := envOf []
noncomputable def Z_im_least : Nat → Nat → List Nat := fun _ _ => []
noncomputable def O_im_least : List (Nat × LD) := [(0, DL_im_least_0)]
noncomputable def C_im_least : Code := (f83.body).getD .skip
noncomputable def T_im_BestUnder_2 (a1_ : List (Int)) (a2_ : List (Int)) (a3_ : List (List (Int))) (a4_ : Int) : Tr (Int) :=
  .c (Int) (F_im_Field_value a2_ a3_ a1_ a4_) fun r1_ =>
  .l r1_
noncomputable def F_im_BestUnder_2 (a1_ : List (Int)) (a2_ : List (Int)) (a3_ : List (List (Int))) (a4_ : Int) : Option (Int) := (T_im_BestUnder_2 a1_ a2_ a3_ a4_).ev
noncomputable def A_im_BestUnder_2 : Sh := (.cons (.dat (.slice (.int .i64))) (.cons (.ptr (.cons (.dat (.slice (.int .i64))) (.cons (.dat (.slice (.slice (.int .i64)))) .nil))) (.cons (.ptr (.cons (.dat (.int .i64)) .nil)) .nil)))
noncomputable def I_im_BestUnder_2 : List (Nat × OSh) := []
noncomputable def K_im_BestUnder_2 : RetK := { acts := [], res := [.tmp 4], sh := (.cons (.dat (.int .i64)) .nil), obs := [], pins := [] }
noncomputable def D_im_BestUnder_2 : FD where
  A := A_im_BestUnder_2
  ins := I_im_BestUnder_2
  lend := []
  R := Int
  F := fun x => F_im_BestUnder_2 x.1.1 x.1.2.1.1 x.1.2.1.2.1 x.1.2.2.1.1
  emb := fun r => ([.dat (.int .i64) r], [])
noncomputable def E_im_BestUnder_2 : Env := envOf [(120, D_im_Field_value)]
noncomputable def Z_im_BestUnder_2 : Nat → Nat → List Nat := fun _ _ => []
noncomputable def O_im_BestUnder_2 : List (Nat × LD) := []
noncomputable def C_im_BestUnder_2 : Code := (f121.body).getD .skip
end Go.Proofs.Ytlmbhkmaflhagaa
