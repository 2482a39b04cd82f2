import Derived.Test.YtlemejhffpkbkaaB40
import Derived.Test.YtlemejhffpkbkaaProg
namespace Go.Proofs.Ytlemejhffpkbkaa
open Go.Proofs.Try
noncomputable def tabl : List (Nat × TD) := [(3, .sc (.int .i64)), (4, .sc .bool), (5, .sc (.int .u8)), (9, .sc .str), (22, .sl 24 (.slice (.int .i64)) 24), (24, .sl 3 (.int .i64) 8), (89, .sc (.int .u64)), (111, .sc (.int .u64)), (176, .sc (.int .u64))]
noncomputable def tt : Nat → TD := fun i => match look tabl i with
  | some d => d
  | none => .no
noncomputable def T_lw_szIntS (a1_ : List (Int)) (a2_ : Int) : Tr (Int) :=
  .t (decide ((IntKind.wrap .i64 (a2_ - ((List.length a1_ : Nat) : Int))) < (0 : Int)))
    (.l (-1 : Int))
    (.l (IntKind.wrap .i64 (a2_ - ((List.length a1_ : Nat) : Int))))
noncomputable def F_lw_szIntS (a1_ : List (Int)) (a2_ : Int) : Option (Int) := (T_lw_szIntS a1_ a2_).ev
noncomputable def A_lw_szIntS : Sh := (.cons (.dat (.slice (.int .i64))) (.cons (.dat (.int .i64)) .nil))
noncomputable def I_lw_szIntS : List (Nat × OSh) := []
noncomputable def K_lw_szIntS : RetK := { acts := [], res := [.tmp 4], sh := (.cons (.dat (.int .i64)) .nil), obs := [], pins := [] }
noncomputable def D_lw_szIntS : FD where
  A := A_lw_szIntS
  ins := I_lw_szIntS
  lend := []
  R := Int
  F := fun x => F_lw_szIntS x.1.1 x.1.2.1
  emb := fun r => ([.dat (.int .i64) r], [])
noncomputable def E_lw_szIntS : Env := envOf []
noncomputable def Z_lw_szIntS : Nat → Nat → List Nat := fun _ _ => []
noncomputable def O_lw_szIntS : List (Nat × LD) := []
noncomputable def C_lw_szIntS : Code := (f62.body).getD .skip
noncomputable def S_lw_szIntSS_0 (k : List (List (Int))) (v : (Int) × (Int)) : Tr (((Int) × (Int)) ⊕ ((Int) ⊕ (Unit))) :=
  .t (decide (v.2 < ((List.length k : Nat) : Int)))
    (.g (inR v.2 (List.length k)) <|
      .c (Int) (F_lw_szIntS (List.getD k (Int.toNat v.2) ([] : List (Int))) v.1) fun r4_ =>
      .t (decide (r4_ < (0 : Int)))
        (.l (.inr (.inr ())))
        (.l (.inl (r4_, (IntKind.wrap .i64 (v.2 + (1 : Int)))))))
    (.l (.inr (.inl v.1)))
noncomputable def L_lw_szIntSS_0 (k : List (List (Int))) (v : (Int) × (Int)) : Option ((Int) ⊕ (Unit)) := iter (fun v => (S_lw_szIntSS_0 k v).ev) v
noncomputable def DL_lw_szIntSS_0 : LD where
  head := { acts := [], S := { slots := [0, 1, 5], sh := (.cons (.dat (.slice (.slice (.int .i64)))) (.cons (.dat (.int .i64)) (.cons (.dat (.int .i64)) .nil))), obs := [] } }
  exits := [(0, { acts := [], S := { slots := [1], sh := (.cons (.dat (.int .i64)) .nil), obs := [] } })]
  rets := { acts := [], S := { slots := [4], sh := (.cons (.dat (.int .i64)) .nil), obs := [] } }
  K := List (List (Int))
  V := (Int) × (Int)
  R := (Int) ⊕ (Unit)
  join := fun k v => ((k, (v.1, (v.2, ()))), ())
  sk := fun t => t.1.1
  sv := fun t => (t.1.2.1, t.1.2.2.1)
  step := S_lw_szIntSS_0
  leaf := fun _ r => .s (Int) (Unit) r (fun a => .l (.exit 0 (mkSt ({ slots := [1], sh := (.cons (.dat (.int .i64)) .nil), obs := [] }) ((a, ()), ())))) (fun _ => .l (.ret (mkSt ({ slots := [4], sh := (.cons (.dat (.int .i64)) .nil), obs := [] }) (((-1 : Int), ()), ()))))
noncomputable def T_lw_szIntSS (a1_ : List (List (Int))) (a2_ : Int) : Tr (Int) :=
  .t (decide ((IntKind.wrap .i64 (a2_ - ((List.length a1_ : Nat) : Int))) < (0 : Int)))
    (.l (-1 : Int))
    (.c ((Int) ⊕ (Unit)) (L_lw_szIntSS_0 a1_ ((IntKind.wrap .i64 (a2_ - ((List.length a1_ : Nat) : Int))), (0 : Int))) fun r7_ =>
      .s (Int) (Unit) r7_
        (fun r8_ => .l r8_)
        (fun _ => .l (-1 : Int)))
noncomputable def F_lw_szIntSS (a1_ : List (List (Int))) (a2_ : Int) : Option (Int) := (T_lw_szIntSS a1_ a2_).ev
noncomputable def A_lw_szIntSS : Sh := (.cons (.dat (.slice (.slice (.int .i64)))) (.cons (.dat (.int .i64)) .nil))
noncomputable def I_lw_szIntSS : List (Nat × OSh) := []
noncomputable def K_lw_szIntSS : RetK := { acts := [], res := [.tmp 4], sh := (.cons (.dat (.int .i64)) .nil), obs := [], pins := [] }
noncomputable def D_lw_szIntSS : FD where
  A := A_lw_szIntSS
  ins := I_lw_szIntSS
  lend := []
  R := Int
  F := fun x => F_lw_szIntSS x.1.1 x.1.2.1
  emb := fun r => ([.dat (.int .i64) r], [])
noncomputable def E_lw_szIntSS : Env := envOf [(62, D_lw_szIntS)]
noncomputable def Z_lw_szIntSS : Nat → Nat → List Nat := fun _ _ => []
noncomputable def O_lw_szIntSS : List (Nat × LD) := [(0, DL_lw_szIntSS_0)]
noncomputable def C_lw_szIntSS : Code := (f12.body).getD .skip
noncomputable def S_lw_toIntS_0 (k : List (Int)) (v : (Int) × (List (Int))) : Tr (((Int) × (List (Int))) ⊕ (List (Int))) :=
  .t (decide (v.1 < ((List.length k : Nat) : Int)))
    (.g (inR v.1 (List.length k)) <|
      .g (inR v.1 (List.length v.2)) <|
      .g (decide ((Int.toNat v.1) < List.length v.2)) <|
      .l (.inl ((IntKind.wrap .i64 (v.1 + (1 : Int))), (List.set v.2 (Int.toNat v.1) (List.getD k (Int.toNat v.1) (0 : Int))))))
    (.l (.inr v.2))
noncomputable def L_lw_toIntS_0 (k : List (Int)) (v : (Int) × (List (Int))) : Option (List (Int)) := iter (fun v => (S_lw_toIntS_0 k v).ev) v
noncomputable def DL_lw_toIntS_0 : LD where
  head := { acts := [], S := { slots := [0, 3, 4], sh := (.cons (.dat (.slice (.int .i64))) (.cons (.arr 7) (.cons (.dat (.int .i64)) .nil))), obs := [(7, .arr 3 (.int .i64))] } }
  exits := [(0, { acts := [], S := { slots := [3], sh := (.cons (.arr 7) .nil), obs := [(7, .arr 3 (.int .i64))] } })]
  rets := { acts := [], S := { slots := [], sh := .nil, obs := [] } }
  K := List (Int)
  V := (Int) × (List (Int))
  R := List (Int)
  join := fun k v => ((k, ((), (v.1, ()))), (v.2, ()))
  sk := fun t => t.1.1
  sv := fun t => (t.1.2.2.1, t.2.1)
  step := S_lw_toIntS_0
  leaf := fun _ r => .l (.exit 0 (mkSt ({ slots := [3], sh := (.cons (.arr 7) .nil), obs := [(7, .arr 3 (.int .i64))] }) (((), ()), (r, ()))))
noncomputable def T_lw_toIntS (a1_ : List (Int)) : Tr (List (Int)) :=
  .g (decide ((0 : Int) ≤ ((List.length a1_ : Nat) : Int)) && decide (((List.length a1_ : Nat) : Int) ≤ ((List.length a1_ : Nat) : Int)) && decide (((8 : Nat) : Int) * ((List.length a1_ : Nat) : Int) ≤ 281474976710656)) <|
  .c (List (Int)) (L_lw_toIntS_0 a1_ ((0 : Int), (List.replicate (Int.toNat ((List.length a1_ : Nat) : Int)) (0 : Int)))) fun r5_ =>
  .l r5_
noncomputable def F_lw_toIntS (a1_ : List (Int)) : Option (List (Int)) := (T_lw_toIntS a1_).ev
noncomputable def A_lw_toIntS : Sh := (.cons (.dat (.slice (.int .i64))) .nil)
noncomputable def I_lw_toIntS : List (Nat × OSh) := []
noncomputable def K_lw_toIntS : RetK := { acts := [.ren 7 0], res := [.tmp 2], sh := (.cons (.arr 0) .nil), obs := [(0, .arr 3 (.int .i64))], pins := [] }
noncomputable def D_lw_toIntS : FD where
  A := A_lw_toIntS
  ins := I_lw_toIntS
  lend := []
  R := List (Int)
  F := fun x => F_lw_toIntS x.1.1
  emb := fun r => ([.arr 0], [(0, .arr 3 (.int .i64) r)])
noncomputable def E_lw_toIntS : Env := envOf []
noncomputable def Z_lw_toIntS : Nat → Nat → List Nat := fun _ _ => []
noncomputable def O_lw_toIntS : List (Nat × LD) := [(0, DL_lw_toIntS_0)]
noncomputable def C_lw_toIntS : Code := (f26.body).getD .skip
noncomputable def S_lw_toIntSS_0 (k : List (List (Int))) (v : (Int) × (List (List (Int)))) : Tr (((Int) × (List (List (Int)))) ⊕ (List (List (Int)))) :=
  .t (decide (v.1 < ((List.length k : Nat) : Int)))
    (.g (inR v.1 (List.length k)) <|
      .c (List (Int)) (F_lw_toIntS (List.getD k (Int.toNat v.1) ([] : List (Int)))) fun r4_ =>
      .g (inR v.1 (List.length v.2)) <|
      .g (decide ((Int.toNat v.1) < List.length v.2)) <|
      .l (.inl ((IntKind.wrap .i64 (v.1 + (1 : Int))), (List.set v.2 (Int.toNat v.1) r4_))))
    (.l (.inr v.2))
noncomputable def L_lw_toIntSS_0 (k : List (List (Int))) (v : (Int) × (List (List (Int)))) : Option (List (List (Int))) := iter (fun v => (S_lw_toIntSS_0 k v).ev) v
noncomputable def DL_lw_toIntSS_0 : LD where
  head := { acts := [], S := { slots := [0, 3, 4], sh := (.cons (.dat (.slice (.slice (.int .i64)))) (.cons (.arr 7) (.cons (.dat (.int .i64)) .nil))), obs := [(7, .rows 24 3 (.int .i64))] } }
  exits := [(0, { acts := [], S := { slots := [3], sh := (.cons (.arr 7) .nil), obs := [(7, .rows 24 3 (.int .i64))] } })]
  rets := { acts := [], S := { slots := [], sh := .nil, obs := [] } }
  K := List (List (Int))
  V := (Int) × (List (List (Int)))
  R := List (List (Int))
  join := fun k v => ((k, ((), (v.1, ()))), (v.2, ()))
  sk := fun t => t.1.1
  sv := fun t => (t.1.2.2.1, t.2.1)
  step := S_lw_toIntSS_0
  leaf := fun _ r => .l (.exit 0 (mkSt ({ slots := [3], sh := (.cons (.arr 7) .nil), obs := [(7, .rows 24 3 (.int .i64))] }) (((), ()), (r, ()))))
noncomputable def T_lw_toIntSS (a1_ : List (List (Int))) : Tr (List (List (Int))) :=
  .g (decide ((0 : Int) ≤ ((List.length a1_ : Nat) : Int)) && decide (((List.length a1_ : Nat) : Int) ≤ ((List.length a1_ : Nat) : Int)) && decide (((24 : Nat) : Int) * ((List.length a1_ : Nat) : Int) ≤ 281474976710656)) <|
  .c (List (List (Int))) (L_lw_toIntSS_0 a1_ ((0 : Int), (List.replicate (Int.toNat ((List.length a1_ : Nat) : Int)) ([] : List (Int))))) fun r6_ =>
  .l r6_
noncomputable def F_lw_toIntSS (a1_ : List (List (Int))) : Option (List (List (Int))) := (T_lw_toIntSS a1_).ev
noncomputable def A_lw_toIntSS : Sh := (.cons (.dat (.slice (.slice (.int .i64)))) .nil)
noncomputable def I_lw_toIntSS : List (Nat × OSh) := []
noncomputable def K_lw_toIntSS : RetK := { acts := [.ren 7 0], res := [.tmp 2], sh := (.cons (.arr 0) .nil), obs := [(0, .rows 24 3 (.int .i64))], pins := [] }
noncomputable def D_lw_toIntSS : FD where
  A := A_lw_toIntSS
  ins := I_lw_toIntSS
  lend := []
  R := List (List (Int))
  F := fun x => F_lw_toIntSS x.1.1
  emb := fun r => ([.arr 0], [(0, .rows 24 3 (.int .i64) r none)])
noncomputable def E_lw_toIntSS : Env := envOf [(26, D_lw_toIntS)]
noncomputable def Z_lw_toIntSS : Nat → Nat → List Nat := fun r i => match look [(1, [(2, [1000000])])] r with
  | some l => (look l i).getD []
  | none => []
noncomputable def O_lw_toIntSS : List (Nat × LD) := [(0, DL_lw_toIntSS_0)]
noncomputable def C_lw_toIntSS : Code := (f14.body).getD .skip
noncomputable def T_sp_l1In (a1_ : Int) (a2_ : Int) (a3_ : Int) : Tr (Bool) :=
  .t (decide (a2_ ≤ a1_))
    (.l (decide (a1_ ≤ a3_)))
    (.l false)
noncomputable def F_sp_l1In (a1_ : Int) (a2_ : Int) (a3_ : Int) : Option (Bool) := (T_sp_l1In a1_ a2_ a3_).ev
noncomputable def A_sp_l1In : Sh := (.cons (.dat (.int .i64)) (.cons (.dat (.int .i64)) (.cons (.dat (.int .i64)) .nil)))
noncomputable def I_sp_l1In : List (Nat × OSh) := []
noncomputable def K_sp_l1In : RetK := { acts := [], res := [.tmp 6], sh := (.cons (.dat .bool) .nil), obs := [], pins := [] }
noncomputable def D_sp_l1In : FD where
  A := A_sp_l1In
  ins := I_sp_l1In
  lend := []
  R := Bool
  F := fun x => F_sp_l1In x.1.1 x.1.2.1 x.1.2.2.1
  emb := fun r => ([.dat .bool r], [])
noncomputable def E_sp_l1In : Env := envOf []
noncomputable def Z_sp_l1In : Nat → Nat → List Nat := fun _ _ => []
noncomputable def O_sp_l1In : List (Nat × LD) := []
noncomputable def C_sp_l1In : Code := (f84.body).getD .skip
noncomputable def S_sp_l2Row_0 (k : (List (Int)) × ((Int) × (Int))) (v : Int) : Tr ((Int) ⊕ ((Unit) ⊕ (Unit))) :=
  .t (decide (v < ((List.length k.1 : Nat) : Int)))
    (.g (inR v (List.length k.1)) <|
      .c (Bool) (F_sp_l1In (List.getD k.1 (Int.toNat v) (0 : Int)) (0 : Int) k.2.2) fun r5_ =>
      .t (!r5_)
        (.l (.inr (.inr ())))
        (.l (.inl (IntKind.wrap .i64 (v + (1 : Int))))))
    (.l (.inr (.inl ())))
noncomputable def L_sp_l2Row_0 (k : (List (Int)) × ((Int) × (Int))) (v : Int) : Option ((Unit) ⊕ (Unit)) := iter (fun v => (S_sp_l2Row_0 k v).ev) v
noncomputable def DL_sp_l2Row_0 : LD where
  head := { acts := [], S := { slots := [0, 1, 2, 7], sh := (.cons (.dat (.slice (.int .i64))) (.cons (.dat (.int .i64)) (.cons (.dat (.int .i64)) (.cons (.dat (.int .i64)) .nil)))), obs := [] } }
  exits := [(0, { acts := [], S := { slots := [0, 1], sh := (.cons (.dat (.slice (.int .i64))) (.cons (.dat (.int .i64)) .nil)), obs := [] } })]
  rets := { acts := [], S := { slots := [6], sh := (.cons (.dat .bool) .nil), obs := [] } }
  K := (List (Int)) × ((Int) × (Int))
  V := Int
  R := (Unit) ⊕ (Unit)
  join := fun k v => ((k.1, (k.2.1, (k.2.2, (v, ())))), ())
  sk := fun t => (t.1.1, (t.1.2.1, t.1.2.2.1))
  sv := fun t => t.1.2.2.2.1
  step := S_sp_l2Row_0
  leaf := fun k r => .s (Unit) (Unit) r (fun _ => .l (.exit 0 (mkSt ({ slots := [0, 1], sh := (.cons (.dat (.slice (.int .i64))) (.cons (.dat (.int .i64)) .nil)), obs := [] }) ((k.1, (k.2.1, ())), ())))) (fun _ => .l (.ret (mkSt ({ slots := [6], sh := (.cons (.dat .bool) .nil), obs := [] }) ((false, ()), ()))))
noncomputable def T_sp_l2Row (a1_ : List (Int)) (a2_ : Int) (a3_ : Int) : Tr (Bool) :=
  .c ((Unit) ⊕ (Unit)) (L_sp_l2Row_0 (a1_, (a2_, a3_)) (0 : Int)) fun r9_ =>
  .s (Unit) (Unit) r9_
    (fun _ => .l (((List.length a1_ : Nat) : Int) == a2_))
    (fun _ => .l false)
noncomputable def F_sp_l2Row (a1_ : List (Int)) (a2_ : Int) (a3_ : Int) : Option (Bool) := (T_sp_l2Row a1_ a2_ a3_).ev
noncomputable def A_sp_l2Row : Sh := (.cons (.dat (.slice (.int .i64))) (.cons (.dat (.int .i64)) (.cons (.dat (.int .i64)) .nil)))
noncomputable def I_sp_l2Row : List (Nat × OSh) := []
noncomputable def K_sp_l2Row : RetK := { acts := [], res := [.tmp 6], sh := (.cons (.dat .bool) .nil), obs := [], pins := [] }
noncomputable def D_sp_l2Row : FD where
  A := A_sp_l2Row
  ins := I_sp_l2Row
  lend := []
  R := Bool
  F := fun x => F_sp_l2Row x.1.1 x.1.2.1 x.1.2.2.1
  emb := fun r => ([.dat .bool r], [])
noncomputable def E_sp_l2Row : Env := envOf [(84, D_sp_l1In)]
noncomputable def Z_sp_l2Row : Nat → Nat → List Nat := fun _ _ => []
noncomputable def O_sp_l2Row : List (Nat × LD) := [(0, DL_sp_l2Row_0)]
noncomputable def C_sp_l2Row : Code := (f77.body).getD .skip
noncomputable def S_sp_l11Ground_2 (k : (List (List (Int))) × ((Int) × (Int))) (v : Int) : Tr ((Int) ⊕ ((Unit) ⊕ (Unit))) :=
  .t (decide (v < k.2.2))
    (.g (inR k.2.2 (List.length k.1)) <|
      .g (inR v (List.length (List.getD k.1 (Int.toNat k.2.2) ([] : List (Int))))) <|
      .g (inR v (List.length k.1)) <|
      .g (inR k.2.2 (List.length (List.getD k.1 (Int.toNat v) ([] : List (Int))))) <|
      .t ((List.getD (List.getD k.1 (Int.toNat k.2.2) ([] : List (Int))) (Int.toNat v) (0 : Int)) != (List.getD (List.getD k.1 (Int.toNat v) ([] : List (Int))) (Int.toNat k.2.2) (0 : Int)))
        (.l (.inr (.inr ())))
        (.l (.inl (IntKind.wrap .i64 (v + (1 : Int))))))
    (.l (.inr (.inl ())))
noncomputable def L_sp_l11Ground_2 (k : (List (List (Int))) × ((Int) × (Int))) (v : Int) : Option ((Unit) ⊕ (Unit)) := iter (fun v => (S_sp_l11Ground_2 k v).ev) v
noncomputable def DL_sp_l11Ground_2 : LD where
  head := { acts := [], S := { slots := [0, 3, 4, 5], sh := (.cons (.dat (.slice (.slice (.int .i64)))) (.cons (.dat (.int .i64)) (.cons (.dat (.int .i64)) (.cons (.dat (.int .i64)) .nil)))), obs := [] } }
  exits := [(2, { acts := [], S := { slots := [0, 3, 4], sh := (.cons (.dat (.slice (.slice (.int .i64)))) (.cons (.dat (.int .i64)) (.cons (.dat (.int .i64)) .nil))), obs := [] } })]
  rets := { acts := [], S := { slots := [2], sh := (.cons (.dat .bool) .nil), obs := [] } }
  K := (List (List (Int))) × ((Int) × (Int))
  V := Int
  R := (Unit) ⊕ (Unit)
  join := fun k v => ((k.1, (k.2.1, (k.2.2, (v, ())))), ())
  sk := fun t => (t.1.1, (t.1.2.1, t.1.2.2.1))
  sv := fun t => t.1.2.2.2.1
  step := S_sp_l11Ground_2
  leaf := fun k r => .s (Unit) (Unit) r (fun _ => .l (.exit 2 (mkSt ({ slots := [0, 3, 4], sh := (.cons (.dat (.slice (.slice (.int .i64)))) (.cons (.dat (.int .i64)) (.cons (.dat (.int .i64)) .nil))), obs := [] }) ((k.1, (k.2.1, (k.2.2, ()))), ())))) (fun _ => .l (.ret (mkSt ({ slots := [2], sh := (.cons (.dat .bool) .nil), obs := [] }) ((false, ()), ()))))
noncomputable def S_sp_l11Ground_0 (k : (List (List (Int))) × (Int)) (v : Int) : Tr ((Int) ⊕ ((Unit) ⊕ (Unit))) :=
  .t (decide (v < k.2))
    (.g (inR v (List.length k.1)) <|
      .c (Bool) (F_sp_l2Row (List.getD k.1 (Int.toNat v) ([] : List (Int))) k.2 (99 : Int)) fun r4_ =>
      .t (!r4_)
        (.l (.inr (.inr ())))
        (.g (inR v (List.length k.1)) <|
          .g (inR v (List.length (List.getD k.1 (Int.toNat v) ([] : List (Int))))) <|
          .t ((List.getD (List.getD k.1 (Int.toNat v) ([] : List (Int))) (Int.toNat v) (0 : Int)) != (0 : Int))
            (.l (.inr (.inr ())))
            (.c ((Unit) ⊕ (Unit)) (L_sp_l11Ground_2 (k.1, (k.2, v)) (0 : Int)) fun r13_ =>
              .s (Unit) (Unit) r13_
                (fun _ => .l (.inl (IntKind.wrap .i64 (v + (1 : Int)))))
                (fun _ => .l (.inr (.inr ()))))))
    (.l (.inr (.inl ())))
noncomputable def L_sp_l11Ground_0 (k : (List (List (Int))) × (Int)) (v : Int) : Option ((Unit) ⊕ (Unit)) := iter (fun v => (S_sp_l11Ground_0 k v).ev) v
noncomputable def DL_sp_l11Ground_0 : LD where
  head := { acts := [], S := { slots := [0, 3, 4], sh := (.cons (.dat (.slice (.slice (.int .i64)))) (.cons (.dat (.int .i64)) (.cons (.dat (.int .i64)) .nil))), obs := [] } }
  exits := [(0, { acts := [], S := { slots := [3], sh := (.cons (.dat (.int .i64)) .nil), obs := [] } })]
  rets := { acts := [], S := { slots := [2], sh := (.cons (.dat .bool) .nil), obs := [] } }
  K := (List (List (Int))) × (Int)
  V := Int
  R := (Unit) ⊕ (Unit)
  join := fun k v => ((k.1, (k.2, (v, ()))), ())
  sk := fun t => (t.1.1, t.1.2.1)
  sv := fun t => t.1.2.2.1
  step := S_sp_l11Ground_0
  leaf := fun k r => .s (Unit) (Unit) r (fun _ => .l (.exit 0 (mkSt ({ slots := [3], sh := (.cons (.dat (.int .i64)) .nil), obs := [] }) ((k.2, ()), ())))) (fun _ => .l (.ret (mkSt ({ slots := [2], sh := (.cons (.dat .bool) .nil), obs := [] }) ((false, ()), ()))))
noncomputable def T_sp_l11Ground (a1_ : List (List (Int))) : Tr (Bool) :=
  .c ((Unit) ⊕ (Unit)) (L_sp_l11Ground_0 (a1_, ((List.length a1_ : Nat) : Int)) (0 : Int)) fun r18_ =>
  .s (Unit) (Unit) r18_
    (fun _ => .l (decide (((List.length a1_ : Nat) : Int) ≤ (7 : Int))))
    (fun _ => .l false)
noncomputable def F_sp_l11Ground (a1_ : List (List (Int))) : Option (Bool) := (T_sp_l11Ground a1_).ev
noncomputable def A_sp_l11Ground : Sh := (.cons (.dat (.slice (.slice (.int .i64)))) .nil)
noncomputable def I_sp_l11Ground : List (Nat × OSh) := []
noncomputable def K_sp_l11Ground : RetK := { acts := [], res := [.tmp 2], sh := (.cons (.dat .bool) .nil), obs := [], pins := [] }
noncomputable def D_sp_l11Ground : FD where
  A := A_sp_l11Ground
  ins := I_sp_l11Ground
  lend := []
  R := Bool
  F := fun x => F_sp_l11Ground x.1.1
  emb := fun r => ([.dat .bool r], [])
noncomputable def E_sp_l11Ground : Env := envOf [(77, D_sp_l2Row)]
noncomputable def Z_sp_l11Ground : Nat → Nat → List Nat := fun _ _ => []
noncomputable def O_sp_l11Ground : List (Nat × LD) := [(2, DL_sp_l11Ground_2), (0, DL_sp_l11Ground_0)]
noncomputable def C_sp_l11Ground : Code := (f95.body).getD .skip
noncomputable def T_sp_l11Number (a1_ : Int) : Tr (Bool) :=
  .c (Bool) (F_sp_l1In a1_ (1 : Int) (100 : Int)) fun r1_ =>
  .l r1_
noncomputable def F_sp_l11Number (a1_ : Int) : Option (Bool) := (T_sp_l11Number a1_).ev
noncomputable def A_sp_l11Number : Sh := (.cons (.dat (.int .i64)) .nil)
noncomputable def I_sp_l11Number : List (Nat × OSh) := []
noncomputable def K_sp_l11Number : RetK := { acts := [], res := [.tmp 2], sh := (.cons (.dat .bool) .nil), obs := [], pins := [] }
noncomputable def D_sp_l11Number : FD where
  A := A_sp_l11Number
  ins := I_sp_l11Number
  lend := []
  R := Bool
  F := fun x => F_sp_l11Number x.1.1
  emb := fun r => ([.dat .bool r], [])
noncomputable def E_sp_l11Number : Env := envOf [(84, D_sp_l1In)]
noncomputable def Z_sp_l11Number : Nat → Nat → List Nat := fun _ _ => []
noncomputable def O_sp_l11Number : List (Nat × LD) := []
noncomputable def C_sp_l11Number : Code := (f96.body).getD .skip
noncomputable def S_sp_l1Has_0 (k : (List (Int)) × (Int)) (v : Int) : Tr ((Int) ⊕ ((Unit) ⊕ (Unit))) :=
  .t (decide (v < ((List.length k.1 : Nat) : Int)))
    (.g (inR v (List.length k.1)) <|
      .t ((List.getD k.1 (Int.toNat v) (0 : Int)) == k.2)
        (.l (.inr (.inr ())))
        (.l (.inl (IntKind.wrap .i64 (v + (1 : Int))))))
    (.l (.inr (.inl ())))
noncomputable def L_sp_l1Has_0 (k : (List (Int)) × (Int)) (v : Int) : Option ((Unit) ⊕ (Unit)) := iter (fun v => (S_sp_l1Has_0 k v).ev) v
noncomputable def DL_sp_l1Has_0 : LD where
  head := { acts := [], S := { slots := [0, 1, 5], sh := (.cons (.dat (.slice (.int .i64))) (.cons (.dat (.int .i64)) (.cons (.dat (.int .i64)) .nil))), obs := [] } }
  exits := [(0, { acts := [], S := { slots := [], sh := .nil, obs := [] } })]
  rets := { acts := [], S := { slots := [4], sh := (.cons (.dat .bool) .nil), obs := [] } }
  K := (List (Int)) × (Int)
  V := Int
  R := (Unit) ⊕ (Unit)
  join := fun k v => ((k.1, (k.2, (v, ()))), ())
  sk := fun t => (t.1.1, t.1.2.1)
  sv := fun t => t.1.2.2.1
  step := S_sp_l1Has_0
  leaf := fun _ r => .s (Unit) (Unit) r (fun _ => .l (.exit 0 (mkSt ({ slots := [], sh := .nil, obs := [] }) ((), ())))) (fun _ => .l (.ret (mkSt ({ slots := [4], sh := (.cons (.dat .bool) .nil), obs := [] }) ((true, ()), ()))))
noncomputable def T_sp_l1Has (a1_ : List (Int)) (a2_ : Int) : Tr (Bool) :=
  .c ((Unit) ⊕ (Unit)) (L_sp_l1Has_0 (a1_, a2_) (0 : Int)) fun r5_ =>
  .s (Unit) (Unit) r5_
    (fun _ => .l false)
    (fun _ => .l true)
noncomputable def F_sp_l1Has (a1_ : List (Int)) (a2_ : Int) : Option (Bool) := (T_sp_l1Has a1_ a2_).ev
noncomputable def A_sp_l1Has : Sh := (.cons (.dat (.slice (.int .i64))) (.cons (.dat (.int .i64)) .nil))
noncomputable def I_sp_l1Has : List (Nat × OSh) := []
noncomputable def K_sp_l1Has : RetK := { acts := [], res := [.tmp 4], sh := (.cons (.dat .bool) .nil), obs := [], pins := [] }
noncomputable def D_sp_l1Has : FD where
  A := A_sp_l1Has
  ins := I_sp_l1Has
  lend := []
  R := Bool
  F := fun x => F_sp_l1Has x.1.1 x.1.2.1
  emb := fun r => ([.dat .bool r], [])
noncomputable def E_sp_l1Has : Env := envOf []
noncomputable def Z_sp_l1Has : Nat → Nat → List Nat := fun _ _ => []
noncomputable def O_sp_l1Has : List (Nat × LD) := [(0, DL_sp_l1Has_0)]
noncomputable def C_sp_l1Has : Code := (f72.body).getD .skip
noncomputable def S_sp_ProvesApart_4 (k : (List (List (Int))) × ((List (List (Int))) × ((Int) × ((Int) × ((Int) × (List (Int))))))) (v : Int) : Tr ((Int) ⊕ ((Unit) ⊕ (Unit))) :=
  .t (decide (v < k.2.2.2.2.1))
    (.g (inR k.2.2.2.1 (List.length k.2.1)) <|
      .g (inR k.2.2.2.2.1 (List.length (List.getD k.2.1 (Int.toNat k.2.2.2.1) ([] : List (Int))))) <|
      .g (inR (List.getD (List.getD k.2.1 (Int.toNat k.2.2.2.1) ([] : List (Int))) (Int.toNat k.2.2.2.2.1) (0 : Int)) (List.length k.1)) <|
      .g (inR k.2.2.2.1 (List.length k.2.1)) <|
      .g (inR v (List.length (List.getD k.2.1 (Int.toNat k.2.2.2.1) ([] : List (Int))))) <|
      .g (inR (List.getD (List.getD k.2.1 (Int.toNat k.2.2.2.1) ([] : List (Int))) (Int.toNat v) (0 : Int)) (List.length (List.getD k.1 (Int.toNat (List.getD (List.getD k.2.1 (Int.toNat k.2.2.2.1) ([] : List (Int))) (Int.toNat k.2.2.2.2.1) (0 : Int))) ([] : List (Int))))) <|
      .t (decide (k.2.2.1 ≤ (List.getD (List.getD k.1 (Int.toNat (List.getD (List.getD k.2.1 (Int.toNat k.2.2.2.1) ([] : List (Int))) (Int.toNat k.2.2.2.2.1) (0 : Int))) ([] : List (Int))) (Int.toNat (List.getD (List.getD k.2.1 (Int.toNat k.2.2.2.1) ([] : List (Int))) (Int.toNat v) (0 : Int))) (0 : Int))))
        (.l (.inr (.inr ())))
        (.l (.inl (IntKind.wrap .i64 (v + (1 : Int))))))
    (.l (.inr (.inl ())))
noncomputable def L_sp_ProvesApart_4 (k : (List (List (Int))) × ((List (List (Int))) × ((Int) × ((Int) × ((Int) × (List (Int))))))) (v : Int) : Option ((Unit) ⊕ (Unit)) := iter (fun v => (S_sp_ProvesApart_4 k v).ev) v
noncomputable def DL_sp_ProvesApart_4 : LD where
  head := { acts := [], S := { slots := [0, 1, 2, 8, 9, 10, 11], sh := (.cons (.dat (.slice (.slice (.int .i64)))) (.cons (.dat (.slice (.slice (.int .i64)))) (.cons (.dat (.int .i64)) (.cons (.arr 20) (.cons (.dat (.int .i64)) (.cons (.dat (.int .i64)) (.cons (.dat (.int .i64)) .nil))))))), obs := [(20, .arr 3 (.int .i64))] } }
  exits := [(4, { acts := [], S := { slots := [0, 1, 2, 8, 9, 10], sh := (.cons (.dat (.slice (.slice (.int .i64)))) (.cons (.dat (.slice (.slice (.int .i64)))) (.cons (.dat (.int .i64)) (.cons (.arr 20) (.cons (.dat (.int .i64)) (.cons (.dat (.int .i64)) .nil)))))), obs := [(20, .arr 3 (.int .i64))] } })]
  rets := { acts := [], S := { slots := [6, 7], sh := (.cons (.dat .bool) (.cons (.dat .bool) .nil)), obs := [] } }
  K := (List (List (Int))) × ((List (List (Int))) × ((Int) × ((Int) × ((Int) × (List (Int))))))
  V := Int
  R := (Unit) ⊕ (Unit)
  join := fun k v => ((k.1, (k.2.1, (k.2.2.1, ((), (k.2.2.2.1, (k.2.2.2.2.1, (v, ()))))))), (k.2.2.2.2.2, ()))
  sk := fun t => (t.1.1, (t.1.2.1, (t.1.2.2.1, (t.1.2.2.2.2.1, (t.1.2.2.2.2.2.1, t.2.1)))))
  sv := fun t => t.1.2.2.2.2.2.2.1
  step := S_sp_ProvesApart_4
  leaf := fun k r => .s (Unit) (Unit) r (fun _ => .l (.exit 4 (mkSt ({ slots := [0, 1, 2, 8, 9, 10], sh := (.cons (.dat (.slice (.slice (.int .i64)))) (.cons (.dat (.slice (.slice (.int .i64)))) (.cons (.dat (.int .i64)) (.cons (.arr 20) (.cons (.dat (.int .i64)) (.cons (.dat (.int .i64)) .nil)))))), obs := [(20, .arr 3 (.int .i64))] }) ((k.1, (k.2.1, (k.2.2.1, ((), (k.2.2.2.1, (k.2.2.2.2.1, ())))))), (k.2.2.2.2.2, ()))))) (fun _ => .l (.ret (mkSt ({ slots := [6, 7], sh := (.cons (.dat .bool) (.cons (.dat .bool) .nil)), obs := [] }) ((false, (true, ())), ()))))
noncomputable def S_sp_ProvesApart_2 (k : (List (List (Int))) × ((List (List (Int))) × ((Int) × (Int)))) (v : (Int) × (List (Int))) : Tr (((Int) × (List (Int))) ⊕ ((List (Int)) ⊕ (Unit))) :=
  .g (inR k.2.2.2 (List.length k.2.1)) <|
  .t (decide (v.1 < ((List.length (List.getD k.2.1 (Int.toNat k.2.2.2) ([] : List (Int))) : Nat) : Int)))
    (.g (inR k.2.2.2 (List.length k.2.1)) <|
      .g (inR v.1 (List.length (List.getD k.2.1 (Int.toNat k.2.2.2) ([] : List (Int))))) <|
      .c (Bool) (F_sp_l1In (List.getD (List.getD k.2.1 (Int.toNat k.2.2.2) ([] : List (Int))) (Int.toNat v.1) (0 : Int)) (0 : Int) (IntKind.wrap .i64 (((List.length k.1 : Nat) : Int) - (1 : Int)))) fun r14_ =>
      .t (!r14_)
        (.l (.inr (.inr ())))
        (.g (inR k.2.2.2 (List.length k.2.1)) <|
          .g (inR v.1 (List.length (List.getD k.2.1 (Int.toNat k.2.2.2) ([] : List (Int))))) <|
          .c (Bool) (F_sp_l1Has v.2 (List.getD (List.getD k.2.1 (Int.toNat k.2.2.2) ([] : List (Int))) (Int.toNat v.1) (0 : Int))) fun r15_ =>
          .t r15_
            (.l (.inr (.inr ())))
            (.g (inR k.2.2.2 (List.length k.2.1)) <|
              .g (inR v.1 (List.length (List.getD k.2.1 (Int.toNat k.2.2.2) ([] : List (Int))))) <|
              .g (decide ((List.length v.2 + List.length ([(List.getD (List.getD k.2.1 (Int.toNat k.2.2.2) ([] : List (Int))) (Int.toNat v.1) (0 : Int))] : List (Int))) * 8 ≤ 140737488355328)) <|
              .c ((Unit) ⊕ (Unit)) (L_sp_ProvesApart_4 (k.1, (k.2.1, (k.2.2.1, (k.2.2.2, (v.1, (v.2 ++ ([(List.getD (List.getD k.2.1 (Int.toNat k.2.2.2) ([] : List (Int))) (Int.toNat v.1) (0 : Int))] : List (Int)))))))) (0 : Int)) fun r31_ =>
              .s (Unit) (Unit) r31_
                (fun _ => .l (.inl ((IntKind.wrap .i64 (v.1 + (1 : Int))), (v.2 ++ ([(List.getD (List.getD k.2.1 (Int.toNat k.2.2.2) ([] : List (Int))) (Int.toNat v.1) (0 : Int))] : List (Int))))))
                (fun _ => .l (.inr (.inr ()))))))
    (.l (.inr (.inl v.2)))
noncomputable def L_sp_ProvesApart_2 (k : (List (List (Int))) × ((List (List (Int))) × ((Int) × (Int)))) (v : (Int) × (List (Int))) : Option ((List (Int)) ⊕ (Unit)) := iter (fun v => (S_sp_ProvesApart_2 k v).ev) v
noncomputable def DL_sp_ProvesApart_2 : LD where
  head := { acts := [], S := { slots := [0, 1, 2, 8, 9, 10], sh := (.cons (.dat (.slice (.slice (.int .i64)))) (.cons (.dat (.slice (.slice (.int .i64)))) (.cons (.dat (.int .i64)) (.cons (.arr 20) (.cons (.dat (.int .i64)) (.cons (.dat (.int .i64)) .nil)))))), obs := [(20, .arr 3 (.int .i64))] } }
  exits := [(2, { acts := [], S := { slots := [0, 1, 2, 8, 9], sh := (.cons (.dat (.slice (.slice (.int .i64)))) (.cons (.dat (.slice (.slice (.int .i64)))) (.cons (.dat (.int .i64)) (.cons (.arr 20) (.cons (.dat (.int .i64)) .nil))))), obs := [(20, .arr 3 (.int .i64))] } })]
  rets := { acts := [], S := { slots := [6, 7], sh := (.cons (.dat .bool) (.cons (.dat .bool) .nil)), obs := [] } }
  K := (List (List (Int))) × ((List (List (Int))) × ((Int) × (Int)))
  V := (Int) × (List (Int))
  R := (List (Int)) ⊕ (Unit)
  join := fun k v => ((k.1, (k.2.1, (k.2.2.1, ((), (k.2.2.2, (v.1, ())))))), (v.2, ()))
  sk := fun t => (t.1.1, (t.1.2.1, (t.1.2.2.1, t.1.2.2.2.2.1)))
  sv := fun t => (t.1.2.2.2.2.2.1, t.2.1)
  step := S_sp_ProvesApart_2
  leaf := fun k r => .s (List (Int)) (Unit) r (fun a => .l (.exit 2 (mkSt ({ slots := [0, 1, 2, 8, 9], sh := (.cons (.dat (.slice (.slice (.int .i64)))) (.cons (.dat (.slice (.slice (.int .i64)))) (.cons (.dat (.int .i64)) (.cons (.arr 20) (.cons (.dat (.int .i64)) .nil))))), obs := [(20, .arr 3 (.int .i64))] }) ((k.1, (k.2.1, (k.2.2.1, ((), (k.2.2.2, ()))))), (a, ()))))) (fun _ => .l (.ret (mkSt ({ slots := [6, 7], sh := (.cons (.dat .bool) (.cons (.dat .bool) .nil)), obs := [] }) ((false, (true, ())), ()))))
noncomputable def S_sp_ProvesApart_0 (k : (List (List (Int))) × ((List (List (Int))) × (Int))) (v : (Int) × (List (Int))) : Tr (((Int) × (List (Int))) ⊕ ((List (Int)) ⊕ (Unit))) :=
  .t (decide (v.1 < ((List.length k.2.1 : Nat) : Int)))
    (.c ((List (Int)) ⊕ (Unit)) (L_sp_ProvesApart_2 (k.1, (k.2.1, (k.2.2, v.1))) ((0 : Int), v.2)) fun r41_ =>
      .s (List (Int)) (Unit) r41_
        (fun r42_ => .g (inR v.1 (List.length k.2.1)) <|
          .t (((List.length (List.getD k.2.1 (Int.toNat v.1) ([] : List (Int))) : Nat) : Int) == (0 : Int))
            (.l (.inr (.inr ())))
            (.l (.inl ((IntKind.wrap .i64 (v.1 + (1 : Int))), r42_))))
        (fun _ => .l (.inr (.inr ()))))
    (.l (.inr (.inl v.2)))
noncomputable def L_sp_ProvesApart_0 (k : (List (List (Int))) × ((List (List (Int))) × (Int))) (v : (Int) × (List (Int))) : Option ((List (Int)) ⊕ (Unit)) := iter (fun v => (S_sp_ProvesApart_0 k v).ev) v
noncomputable def DL_sp_ProvesApart_0 : LD where
  head := { acts := [], S := { slots := [0, 1, 2, 8, 9], sh := (.cons (.dat (.slice (.slice (.int .i64)))) (.cons (.dat (.slice (.slice (.int .i64)))) (.cons (.dat (.int .i64)) (.cons (.arr 20) (.cons (.dat (.int .i64)) .nil))))), obs := [(20, .arr 3 (.int .i64))] } }
  exits := [(0, { acts := [], S := { slots := [0, 8], sh := (.cons (.dat (.slice (.slice (.int .i64)))) (.cons (.arr 20) .nil)), obs := [(20, .arr 3 (.int .i64))] } })]
  rets := { acts := [], S := { slots := [6, 7], sh := (.cons (.dat .bool) (.cons (.dat .bool) .nil)), obs := [] } }
  K := (List (List (Int))) × ((List (List (Int))) × (Int))
  V := (Int) × (List (Int))
  R := (List (Int)) ⊕ (Unit)
  join := fun k v => ((k.1, (k.2.1, (k.2.2, ((), (v.1, ()))))), (v.2, ()))
  sk := fun t => (t.1.1, (t.1.2.1, t.1.2.2.1))
  sv := fun t => (t.1.2.2.2.2.1, t.2.1)
  step := S_sp_ProvesApart_0
  leaf := fun k r => .s (List (Int)) (Unit) r (fun a => .l (.exit 0 (mkSt ({ slots := [0, 8], sh := (.cons (.dat (.slice (.slice (.int .i64)))) (.cons (.arr 20) .nil)), obs := [(20, .arr 3 (.int .i64))] }) ((k.1, ((), ())), (a, ()))))) (fun _ => .l (.ret (mkSt ({ slots := [6, 7], sh := (.cons (.dat .bool) (.cons (.dat .bool) .nil)), obs := [] }) ((false, (true, ())), ()))))
noncomputable def T_sp_ProvesApart (a1_ : List (List (Int))) (a2_ : List (List (Int))) (a3_ : Int) : Tr ((Bool) × (Bool)) :=
  .c (Bool) (F_sp_l11Ground a1_) fun r1_ =>
  .t (!r1_)
    (.l (false, false))
    (.c (Bool) (F_sp_l11Number a3_) fun r2_ =>
      .t (!r2_)
        (.l (false, false))
        (.c ((List (Int)) ⊕ (Unit)) (L_sp_ProvesApart_0 (a1_, (a2_, a3_)) ((0 : Int), ([] : List (Int)))) fun r48_ =>
          .s (List (Int)) (Unit) r48_
            (fun r49_ => .l ((((List.length r49_ : Nat) : Int) == ((List.length a1_ : Nat) : Int)), true))
            (fun _ => .l (false, true))))
noncomputable def F_sp_ProvesApart (a1_ : List (List (Int))) (a2_ : List (List (Int))) (a3_ : Int) : Option ((Bool) × (Bool)) := (T_sp_ProvesApart a1_ a2_ a3_).ev
noncomputable def A_sp_ProvesApart : Sh := (.cons (.dat (.slice (.slice (.int .i64)))) (.cons (.dat (.slice (.slice (.int .i64)))) (.cons (.dat (.int .i64)) .nil)))
noncomputable def I_sp_ProvesApart : List (Nat × OSh) := []
noncomputable def K_sp_ProvesApart : RetK := { acts := [], res := [.tmp 6, .tmp 7], sh := (.cons (.dat .bool) (.cons (.dat .bool) .nil)), obs := [], pins := [] }
noncomputable def D_sp_ProvesApart : FD where
  A := A_sp_ProvesApart
  ins := I_sp_ProvesApart
  lend := []
  R := (Bool) × (Bool)
  F := fun x => F_sp_ProvesApart x.1.1 x.1.2.1 x.1.2.2.1
  emb := fun r => ([.dat .bool r.1, .dat .bool r.2], [])
noncomputable def E_sp_ProvesApart : Env := envOf [(95, D_sp_l11Ground), (96, D_sp_l11Number), (84, D_sp_l1In), (72, D_sp_l1Has)]
noncomputable def Z_sp_ProvesApart : Nat → Nat → List Nat := fun _ _ => []
noncomputable def O_sp_ProvesApart : List (Nat × LD) := [(4, DL_sp_ProvesApart_4), (2, DL_sp_ProvesApart_2), (0, DL_sp_ProvesApart_0)]
noncomputable def C_sp_ProvesApart : Code := (f32.body).getD .skip
noncomputable def S_slices_IndexFunc_Sint_int_0 (k : (List (Int)) × (((HL [(.int .i64)] → Option (Bool))) × (Int))) (v : Int) : Tr ((Int) ⊕ ((Unit) ⊕ (Int))) :=
  .t (decide (v < k.2.2))
    (.g (inR v (List.length k.1)) <|
      .c (Bool) (k.2.1 ((List.getD k.1 (Int.toNat v) (0 : Int)), ())) fun r5_ =>
      .t r5_
        (.l (.inr (.inr v)))
        (.l (.inl (IntKind.wrap .i64 (v + (1 : Int))))))
    (.l (.inr (.inl ())))
noncomputable def L_slices_IndexFunc_Sint_int_0 (k : (List (Int)) × (((HL [(.int .i64)] → Option (Bool))) × (Int))) (v : Int) : Option ((Unit) ⊕ (Int)) := iter (fun v => (S_slices_IndexFunc_Sint_int_0 k v).ev) v
noncomputable def DL_slices_IndexFunc_Sint_int_0 : LD where
  head := { acts := [], S := { slots := [0, 1, 7, 8], sh := (.cons (.dat (.slice (.int .i64))) (.cons (.clo [(.int .i64)] .bool) (.cons (.dat (.int .i64)) (.cons (.dat (.int .i64)) .nil)))), obs := [] } }
  exits := [(0, { acts := [], S := { slots := [], sh := .nil, obs := [] } })]
  rets := { acts := [], S := { slots := [4], sh := (.cons (.dat (.int .i64)) .nil), obs := [] } }
  K := (List (Int)) × (((HL [(.int .i64)] → Option (Bool))) × (Int))
  V := Int
  R := (Unit) ⊕ (Int)
  join := fun k v => ((k.1, (k.2.1, (k.2.2, (v, ())))), ())
  sk := fun t => (t.1.1, (t.1.2.1, t.1.2.2.1))
  sv := fun t => t.1.2.2.2.1
  step := S_slices_IndexFunc_Sint_int_0
  leaf := fun _ r => .s (Unit) (Int) r (fun _ => .l (.exit 0 (mkSt ({ slots := [], sh := .nil, obs := [] }) ((), ())))) (fun b => .l (.ret (mkSt ({ slots := [4], sh := (.cons (.dat (.int .i64)) .nil), obs := [] }) ((b, ()), ()))))
noncomputable def T_slices_IndexFunc_Sint_int (a1_ : List (Int)) (a2_ : (HL [(.int .i64)] → Option (Bool))) : Tr (Int) :=
  .c ((Unit) ⊕ (Int)) (L_slices_IndexFunc_Sint_int_0 (a1_, (a2_, ((List.length a1_ : Nat) : Int))) (0 : Int)) fun r7_ =>
  .s (Unit) (Int) r7_
    (fun _ => .l (-1 : Int))
    (fun r9_ => .l r9_)
noncomputable def F_slices_IndexFunc_Sint_int (a1_ : List (Int)) (a2_ : (HL [(.int .i64)] → Option (Bool))) : Option (Int) := (T_slices_IndexFunc_Sint_int a1_ a2_).ev
noncomputable def A_slices_IndexFunc_Sint_int : Sh := (.cons (.dat (.slice (.int .i64))) (.cons (.clo [(.int .i64)] .bool) .nil))
noncomputable def I_slices_IndexFunc_Sint_int : List (Nat × OSh) := []
noncomputable def K_slices_IndexFunc_Sint_int : RetK := { acts := [], res := [.tmp 4], sh := (.cons (.dat (.int .i64)) .nil), obs := [], pins := [] }
noncomputable def D_slices_IndexFunc_Sint_int : FD where
  A := A_slices_IndexFunc_Sint_int
  ins := I_slices_IndexFunc_Sint_int
  lend := []
  R := Int
  F := fun x => F_slices_IndexFunc_Sint_int x.1.1 x.1.2.1
  emb := fun r => ([.dat (.int .i64) r], [])
noncomputable def E_slices_IndexFunc_Sint_int : Env := envOf []
noncomputable def Z_slices_IndexFunc_Sint_int : Nat → Nat → List Nat := fun _ _ => []
noncomputable def O_slices_IndexFunc_Sint_int : List (Nat × LD) := [(0, DL_slices_IndexFunc_Sint_int_0)]
noncomputable def C_slices_IndexFunc_Sint_int : Code := (f152.body).getD .skip
noncomputable def T_slices_ContainsFunc_Sint_int (a1_ : List (Int)) (a2_ : (HL [(.int .i64)] → Option (Bool))) : Tr (Bool) :=
  .c (Int) (F_slices_IndexFunc_Sint_int a1_ a2_) fun r1_ =>
  .l (decide ((0 : Int) ≤ r1_))
noncomputable def F_slices_ContainsFunc_Sint_int (a1_ : List (Int)) (a2_ : (HL [(.int .i64)] → Option (Bool))) : Option (Bool) := (T_slices_ContainsFunc_Sint_int a1_ a2_).ev
noncomputable def A_slices_ContainsFunc_Sint_int : Sh := (.cons (.dat (.slice (.int .i64))) (.cons (.clo [(.int .i64)] .bool) .nil))
noncomputable def I_slices_ContainsFunc_Sint_int : List (Nat × OSh) := []
noncomputable def K_slices_ContainsFunc_Sint_int : RetK := { acts := [], res := [.tmp 4], sh := (.cons (.dat .bool) .nil), obs := [], pins := [] }
noncomputable def D_slices_ContainsFunc_Sint_int : FD where
  A := A_slices_ContainsFunc_Sint_int
  ins := I_slices_ContainsFunc_Sint_int
  lend := []
  R := Bool
  F := fun x => F_slices_ContainsFunc_Sint_int x.1.1 x.1.2.1
  emb := fun r => ([.dat .bool r], [])
noncomputable def E_slices_ContainsFunc_Sint_int : Env := envOf [(152, D_slices_IndexFunc_Sint_int)]
noncomputable def Z_slices_ContainsFunc_Sint_int : Nat → Nat → List Nat := fun _ _ => []
noncomputable def O_slices_ContainsFunc_Sint_int : List (Nat × LD) := []
noncomputable def C_slices_ContainsFunc_Sint_int : Code := (f99.body).getD .skip
noncomputable def T_im_between (a1_ : Int) (a2_ : Int) (a3_ : Int) : Tr (Bool) :=
  .t (decide (a2_ ≤ a1_))
    (.l (decide (a1_ ≤ a3_)))
    (.l false)
noncomputable def F_im_between (a1_ : Int) (a2_ : Int) (a3_ : Int) : Option (Bool) := (T_im_between a1_ a2_ a3_).ev
noncomputable def A_im_between : Sh := (.cons (.dat (.int .i64)) (.cons (.dat (.int .i64)) (.cons (.dat (.int .i64)) .nil)))
noncomputable def I_im_between : List (Nat × OSh) := []
noncomputable def K_im_between : RetK := { acts := [], res := [.tmp 6], sh := (.cons (.dat .bool) .nil), obs := [], pins := [] }
noncomputable def D_im_between : FD where
  A := A_im_between
  ins := I_im_between
  lend := []
  R := Bool
  F := fun x => F_im_between x.1.1 x.1.2.1 x.1.2.2.1
  emb := fun r => ([.dat .bool r], [])
noncomputable def E_im_between : Env := envOf []
noncomputable def Z_im_between : Nat → Nat → List Nat := fun _ _ => []
noncomputable def O_im_between : List (Nat × LD) := []
noncomputable def C_im_between : Code := (f67.body).getD .skip
noncomputable def T_im_areBetween_1 (a1_ : Int) (a2_ : Int) (a3_ : Int) : Tr (Bool) :=
  .c (Bool) (F_im_between a1_ a2_ a3_) fun r1_ =>
  .l (!r1_)
noncomputable def F_im_areBetween_1 (a1_ : Int) (a2_ : Int) (a3_ : Int) : Option (Bool) := (T_im_areBetween_1 a1_ a2_ a3_).ev
noncomputable def A_im_areBetween_1 : Sh := (.cons (.dat (.int .i64)) (.cons (.ptr (.cons (.dat (.int .i64)) .nil)) (.cons (.ptr (.cons (.dat (.int .i64)) .nil)) .nil)))
noncomputable def I_im_areBetween_1 : List (Nat × OSh) := []
noncomputable def K_im_areBetween_1 : RetK := { acts := [], res := [.tmp 4], sh := (.cons (.dat .bool) .nil), obs := [], pins := [] }
noncomputable def D_im_areBetween_1 : FD where
  A := A_im_areBetween_1
  ins := I_im_areBetween_1
  lend := []
  R := Bool
  F := fun x => F_im_areBetween_1 x.1.1 x.1.2.1.1 x.1.2.2.1.1
  emb := fun r => ([.dat .bool r], [])
noncomputable def E_im_areBetween_1 : Env := envOf [(67, D_im_between)]
noncomputable def Z_im_areBetween_1 : Nat → Nat → List Nat := fun _ _ => []
noncomputable def O_im_areBetween_1 : List (Nat × LD) := []
noncomputable def C_im_areBetween_1 : Code := (f178.body).getD .skip
noncomputable def T_im_areBetween (a1_ : List (Int)) (a2_ : Int) (a3_ : Int) : Tr (Bool) :=
  .c (Bool) (F_slices_ContainsFunc_Sint_int a1_ (fun h1_ => Option.bind (F_im_areBetween_1 h1_.1 a2_ a3_) fun y2_ => some y2_)) fun r3_ =>
  .l (!r3_)
noncomputable def F_im_areBetween (a1_ : List (Int)) (a2_ : Int) (a3_ : Int) : Option (Bool) := (T_im_areBetween a1_ a2_ a3_).ev
noncomputable def A_im_areBetween : Sh := (.cons (.dat (.slice (.int .i64))) (.cons (.dat (.int .i64)) (.cons (.dat (.int .i64)) .nil)))
noncomputable def I_im_areBetween : List (Nat × OSh) := []
noncomputable def K_im_areBetween : RetK := { acts := [], res := [.tmp 6], sh := (.cons (.dat .bool) .nil), obs := [], pins := [] }
noncomputable def D_im_areBetween : FD where
  A := A_im_areBetween
  ins := I_im_areBetween
  lend := []
  R := Bool
  F := fun x => F_im_areBetween x.1.1 x.1.2.1 x.1.2.2.1
  emb := fun r => ([.dat .bool r], [])
noncomputable def E_im_areBetween : Env := envOf [(99, D_slices_ContainsFunc_Sint_int), (99, D_slices_ContainsFunc_Sint_int), (178, D_im_areBetween_1)]
noncomputable def Z_im_areBetween : Nat → Nat → List Nat := fun _ _ => []
noncomputable def O_im_areBetween : List (Nat × LD) := []
noncomputable def C_im_areBetween : Code := (f133.body).getD .skip
noncomputable def S_im_IsGround_0 (k : (List (List (Int))) × ((List (List (Int))) × (Int))) (v : Int) : Tr ((Int) ⊕ ((Unit) ⊕ (Unit))) :=
  .t (decide (v < k.2.2))
    (.g (inR v (List.length k.2.1)) <|
      .t (((List.length (List.getD k.2.1 (Int.toNat v) ([] : List (Int))) : Nat) : Int) != ((List.length k.1 : Nat) : Int))
        (.l (.inr (.inr ())))
        (.c (Bool) (F_im_areBetween (List.getD k.2.1 (Int.toNat v) ([] : List (Int))) (0 : Int) (99 : Int)) fun r5_ =>
          .t (!r5_)
            (.l (.inr (.inr ())))
            (.l (.inl (IntKind.wrap .i64 (v + (1 : Int)))))))
    (.l (.inr (.inl ())))
noncomputable def L_im_IsGround_0 (k : (List (List (Int))) × ((List (List (Int))) × (Int))) (v : Int) : Option ((Unit) ⊕ (Unit)) := iter (fun v => (S_im_IsGround_0 k v).ev) v
noncomputable def DL_im_IsGround_0 : LD where
  head := { acts := [], S := { slots := [0, 12, 13, 14], sh := (.cons (.dat (.slice (.slice (.int .i64)))) (.cons (.dat (.slice (.slice (.int .i64)))) (.cons (.dat (.int .i64)) (.cons (.dat (.int .i64)) .nil)))), obs := [] } }
  exits := [(0, { acts := [], S := { slots := [0], sh := (.cons (.dat (.slice (.slice (.int .i64)))) .nil), obs := [] } })]
  rets := { acts := [], S := { slots := [2], sh := (.cons (.dat .bool) .nil), obs := [] } }
  K := (List (List (Int))) × ((List (List (Int))) × (Int))
  V := Int
  R := (Unit) ⊕ (Unit)
  join := fun k v => ((k.1, (k.2.1, (k.2.2, (v, ())))), ())
  sk := fun t => (t.1.1, (t.1.2.1, t.1.2.2.1))
  sv := fun t => t.1.2.2.2.1
  step := S_im_IsGround_0
  leaf := fun k r => .s (Unit) (Unit) r (fun _ => .l (.exit 0 (mkSt ({ slots := [0], sh := (.cons (.dat (.slice (.slice (.int .i64)))) .nil), obs := [] }) ((k.1, ()), ())))) (fun _ => .l (.ret (mkSt ({ slots := [2], sh := (.cons (.dat .bool) .nil), obs := [] }) ((false, ()), ()))))
noncomputable def S_im_IsGround_4 (k : (List (List (Int))) × ((Int) × ((List (List (Int))) × ((Int) × ((Int) × ((List (Int)) × (Int))))))) (v : Int) : Tr ((Int) ⊕ ((Unit) ⊕ (Unit))) :=
  .t (decide (v < k.2.2.2.2.2.2))
    (.g (inR v (List.length k.2.2.2.2.2.1)) <|
      .g (inR v (List.length k.1)) <|
      .g (inR k.2.1 (List.length (List.getD k.1 (Int.toNat v) ([] : List (Int))))) <|
      .t ((List.getD k.2.2.2.2.2.1 (Int.toNat v) (0 : Int)) != (List.getD (List.getD k.1 (Int.toNat v) ([] : List (Int))) (Int.toNat k.2.1) (0 : Int)))
        (.l (.inr (.inr ())))
        (.t (k.2.1 == v)
            (.t ((List.getD k.2.2.2.2.2.1 (Int.toNat v) (0 : Int)) != (0 : Int))
                (.l (.inr (.inr ())))
                (.l (.inl (IntKind.wrap .i64 (v + (1 : Int))))))
            (.l (.inl (IntKind.wrap .i64 (v + (1 : Int)))))))
    (.l (.inr (.inl ())))
noncomputable def L_im_IsGround_4 (k : (List (List (Int))) × ((Int) × ((List (List (Int))) × ((Int) × ((Int) × ((List (Int)) × (Int))))))) (v : Int) : Option ((Unit) ⊕ (Unit)) := iter (fun v => (S_im_IsGround_4 k v).ev) v
noncomputable def DL_im_IsGround_4 : LD where
  head := { acts := [], S := { slots := [0, 5, 29, 30, 31, 36, 37, 38], sh := (.cons (.dat (.slice (.slice (.int .i64)))) (.cons (.dat (.int .i64)) (.cons (.dat (.slice (.slice (.int .i64)))) (.cons (.dat (.int .i64)) (.cons (.dat (.int .i64)) (.cons (.dat (.slice (.int .i64))) (.cons (.dat (.int .i64)) (.cons (.dat (.int .i64)) .nil)))))))), obs := [] } }
  exits := [(4, { acts := [], S := { slots := [0, 29, 30, 31], sh := (.cons (.dat (.slice (.slice (.int .i64)))) (.cons (.dat (.slice (.slice (.int .i64)))) (.cons (.dat (.int .i64)) (.cons (.dat (.int .i64)) .nil)))), obs := [] } })]
  rets := { acts := [], S := { slots := [2], sh := (.cons (.dat .bool) .nil), obs := [] } }
  K := (List (List (Int))) × ((Int) × ((List (List (Int))) × ((Int) × ((Int) × ((List (Int)) × (Int))))))
  V := Int
  R := (Unit) ⊕ (Unit)
  join := fun k v => ((k.1, (k.2.1, (k.2.2.1, (k.2.2.2.1, (k.2.2.2.2.1, (k.2.2.2.2.2.1, (k.2.2.2.2.2.2, (v, ())))))))), ())
  sk := fun t => (t.1.1, (t.1.2.1, (t.1.2.2.1, (t.1.2.2.2.1, (t.1.2.2.2.2.1, (t.1.2.2.2.2.2.1, t.1.2.2.2.2.2.2.1))))))
  sv := fun t => t.1.2.2.2.2.2.2.2.1
  step := S_im_IsGround_4
  leaf := fun k r => .s (Unit) (Unit) r (fun _ => .l (.exit 4 (mkSt ({ slots := [0, 29, 30, 31], sh := (.cons (.dat (.slice (.slice (.int .i64)))) (.cons (.dat (.slice (.slice (.int .i64)))) (.cons (.dat (.int .i64)) (.cons (.dat (.int .i64)) .nil)))), obs := [] }) ((k.1, (k.2.2.1, (k.2.2.2.1, (k.2.2.2.2.1, ())))), ())))) (fun _ => .l (.ret (mkSt ({ slots := [2], sh := (.cons (.dat .bool) .nil), obs := [] }) ((false, ()), ()))))
noncomputable def S_im_IsGround_2 (k : (List (List (Int))) × ((List (List (Int))) × (Int))) (v : Int) : Tr ((Int) ⊕ ((Unit) ⊕ (Unit))) :=
  .t (decide (v < k.2.2))
    (.g (inR v (List.length k.2.1)) <|
      .c ((Unit) ⊕ (Unit)) (L_im_IsGround_4 (k.1, (v, (k.2.1, (k.2.2, (v, ((List.getD k.2.1 (Int.toNat v) ([] : List (Int))), ((List.length (List.getD k.2.1 (Int.toNat v) ([] : List (Int))) : Nat) : Int))))))) (0 : Int)) fun r28_ =>
      .s (Unit) (Unit) r28_
        (fun _ => .l (.inl (IntKind.wrap .i64 (v + (1 : Int)))))
        (fun _ => .l (.inr (.inr ()))))
    (.l (.inr (.inl ())))
noncomputable def L_im_IsGround_2 (k : (List (List (Int))) × ((List (List (Int))) × (Int))) (v : Int) : Option ((Unit) ⊕ (Unit)) := iter (fun v => (S_im_IsGround_2 k v).ev) v
noncomputable def DL_im_IsGround_2 : LD where
  head := { acts := [], S := { slots := [0, 29, 30, 31], sh := (.cons (.dat (.slice (.slice (.int .i64)))) (.cons (.dat (.slice (.slice (.int .i64)))) (.cons (.dat (.int .i64)) (.cons (.dat (.int .i64)) .nil)))), obs := [] } }
  exits := [(2, { acts := [], S := { slots := [], sh := .nil, obs := [] } })]
  rets := { acts := [], S := { slots := [2], sh := (.cons (.dat .bool) .nil), obs := [] } }
  K := (List (List (Int))) × ((List (List (Int))) × (Int))
  V := Int
  R := (Unit) ⊕ (Unit)
  join := fun k v => ((k.1, (k.2.1, (k.2.2, (v, ())))), ())
  sk := fun t => (t.1.1, (t.1.2.1, t.1.2.2.1))
  sv := fun t => t.1.2.2.2.1
  step := S_im_IsGround_2
  leaf := fun _ r => .s (Unit) (Unit) r (fun _ => .l (.exit 2 (mkSt ({ slots := [], sh := .nil, obs := [] }) ((), ())))) (fun _ => .l (.ret (mkSt ({ slots := [2], sh := (.cons (.dat .bool) .nil), obs := [] }) ((false, ()), ()))))
noncomputable def T_im_IsGround (a1_ : List (List (Int))) : Tr (Bool) :=
  .t (decide ((7 : Int) < ((List.length a1_ : Nat) : Int)))
    (.l false)
    (.c ((Unit) ⊕ (Unit)) (L_im_IsGround_0 (a1_, (a1_, ((List.length a1_ : Nat) : Int))) (0 : Int)) fun r8_ =>
      .s (Unit) (Unit) r8_
        (fun _ => .c ((Unit) ⊕ (Unit)) (L_im_IsGround_2 (a1_, (a1_, ((List.length a1_ : Nat) : Int))) (0 : Int)) fun r32_ =>
          .s (Unit) (Unit) r32_
            (fun _ => .l true)
            (fun _ => .l false))
        (fun _ => .l false))
noncomputable def F_im_IsGround (a1_ : List (List (Int))) : Option (Bool) := (T_im_IsGround a1_).ev
noncomputable def A_im_IsGround : Sh := (.cons (.dat (.slice (.slice (.int .i64)))) .nil)
noncomputable def I_im_IsGround : List (Nat × OSh) := []
noncomputable def K_im_IsGround : RetK := { acts := [], res := [.tmp 2], sh := (.cons (.dat .bool) .nil), obs := [], pins := [] }
noncomputable def D_im_IsGround : FD where
  A := A_im_IsGround
  ins := I_im_IsGround
  lend := []
  R := Bool
  F := fun x => F_im_IsGround x.1.1
  emb := fun r => ([.dat .bool r], [])
noncomputable def E_im_IsGround : Env := envOf [(133, D_im_areBetween)]
noncomputable def Z_im_IsGround : Nat → Nat → List Nat := fun _ _ => []
noncomputable def O_im_IsGround : List (Nat × LD) := [(0, DL_im_IsGround_0), (4, DL_im_IsGround_4), (2, DL_im_IsGround_2)]
noncomputable def C_im_IsGround : Code := (f66.body).getD .skip
noncomputable def T_slices_Grow_Sint_int (a1_ : Int) : Tr (List (Int)) :=
  .t (decide (a1_ < (0 : Int)))
    (.f)
    (.t (decide ((0 : Int) < (IntKind.wrap .i64 (a1_ - (IntKind.wrap .i64 ((0 : Int) - (0 : Int)))))))
        (.g (decide ((0 : Int) ≤ (0 : Int)) && decide ((0 : Int) ≤ ((0 : Nat) : Int))) <|
          .g (decide ((0 : Int) < (IntKind.wrap .i64 (a1_ - (IntKind.wrap .i64 ((0 : Int) - (0 : Int)))))) && decide ((IntKind.wrap .i64 (a1_ - (IntKind.wrap .i64 ((0 : Int) - (0 : Int))))) * ((8 : Nat) : Int) ≤ 281474976710656)) <|
          .g (decide ((0 : Int) ≤ (0 : Int)) && decide ((0 : Int) ≤ ((List.length (List.replicate (Int.toNat (IntKind.wrap .i64 (a1_ - (IntKind.wrap .i64 ((0 : Int) - (0 : Int)))))) (0 : Int)) : Nat) : Int))) <|
          .l (List.take (Int.toNat (0 : Int)) (List.replicate (Int.toNat (IntKind.wrap .i64 (a1_ - (IntKind.wrap .i64 ((0 : Int) - (0 : Int)))))) (0 : Int))))
        (.l ([] : List (Int))))
noncomputable def F_slices_Grow_Sint_int (a1_ : Int) : Option (List (Int)) := (T_slices_Grow_Sint_int a1_).ev
noncomputable def A_slices_Grow_Sint_int : Sh := (.cons .nilsl (.cons (.dat (.int .i64)) .nil))
noncomputable def I_slices_Grow_Sint_int : List (Nat × OSh) := []
noncomputable def K_slices_Grow_Sint_int : RetK := { acts := [.own 4 0 3 (.int .i64), .ren 22 0], res := [.tmp 4], sh := (.cons (.arr 0) .nil), obs := [(0, .arr 3 (.int .i64))], pins := [] }
noncomputable def D_slices_Grow_Sint_int : FD where
  A := A_slices_Grow_Sint_int
  ins := I_slices_Grow_Sint_int
  lend := []
  R := List (Int)
  F := fun x => F_slices_Grow_Sint_int x.1.2.1
  emb := fun r => ([.arr 0], [(0, .arr 3 (.int .i64) r)])
noncomputable def E_slices_Grow_Sint_int : Env := envOf []
noncomputable def Z_slices_Grow_Sint_int : Nat → Nat → List Nat := fun _ _ => []
noncomputable def O_slices_Grow_Sint_int : List (Nat × LD) := []
noncomputable def C_slices_Grow_Sint_int : Code := (f151.body).getD .skip
noncomputable def S_slices_Concat_Sint_int_0 (k : (List (List (Int))) × ((List (List (Int))) × (Int))) (v : (Int) × (Int)) : Tr (((Int) × (Int)) ⊕ (Int)) :=
  .t (decide (v.2 < k.2.2))
    (.g (inR v.2 (List.length k.2.1)) <|
      .t (decide ((IntKind.wrap .i64 (v.1 + ((List.length (List.getD k.2.1 (Int.toNat v.2) ([] : List (Int))) : Nat) : Int))) < (0 : Int)))
        (.f)
        (.l (.inl ((IntKind.wrap .i64 (v.1 + ((List.length (List.getD k.2.1 (Int.toNat v.2) ([] : List (Int))) : Nat) : Int))), (IntKind.wrap .i64 (v.2 + (1 : Int)))))))
    (.l (.inr v.1))
noncomputable def L_slices_Concat_Sint_int_0 (k : (List (List (Int))) × ((List (List (Int))) × (Int))) (v : (Int) × (Int)) : Option (Int) := iter (fun v => (S_slices_Concat_Sint_int_0 k v).ev) v
noncomputable def DL_slices_Concat_Sint_int_0 : LD where
  head := { acts := [], S := { slots := [0, 3, 9, 10, 11], sh := (.cons (.dat (.slice (.slice (.int .i64)))) (.cons (.dat (.int .i64)) (.cons (.dat (.slice (.slice (.int .i64)))) (.cons (.dat (.int .i64)) (.cons (.dat (.int .i64)) .nil))))), obs := [] } }
  exits := [(0, { acts := [], S := { slots := [0, 3], sh := (.cons (.dat (.slice (.slice (.int .i64)))) (.cons (.dat (.int .i64)) .nil)), obs := [] } })]
  rets := { acts := [], S := { slots := [], sh := .nil, obs := [] } }
  K := (List (List (Int))) × ((List (List (Int))) × (Int))
  V := (Int) × (Int)
  R := Int
  join := fun k v => ((k.1, (v.1, (k.2.1, (k.2.2, (v.2, ()))))), ())
  sk := fun t => (t.1.1, (t.1.2.2.1, t.1.2.2.2.1))
  sv := fun t => (t.1.2.1, t.1.2.2.2.2.1)
  step := S_slices_Concat_Sint_int_0
  leaf := fun k r => .l (.exit 0 (mkSt ({ slots := [0, 3], sh := (.cons (.dat (.slice (.slice (.int .i64)))) (.cons (.dat (.int .i64)) .nil)), obs := [] }) ((k.1, (r, ())), ())))
noncomputable def S_slices_Concat_Sint_int_2 (k : (List (List (Int))) × (Int)) (v : (Int) × (List (Int))) : Tr (((Int) × (List (Int))) ⊕ (List (Int))) :=
  .t (decide (v.1 < k.2))
    (.g (inR v.1 (List.length k.1)) <|
      .g (decide ((List.length v.2 + List.length (List.getD k.1 (Int.toNat v.1) ([] : List (Int)))) * 8 ≤ 140737488355328)) <|
      .l (.inl ((IntKind.wrap .i64 (v.1 + (1 : Int))), (v.2 ++ (List.getD k.1 (Int.toNat v.1) ([] : List (Int)))))))
    (.l (.inr v.2))
noncomputable def L_slices_Concat_Sint_int_2 (k : (List (List (Int))) × (Int)) (v : (Int) × (List (Int))) : Option (List (Int)) := iter (fun v => (S_slices_Concat_Sint_int_2 k v).ev) v
noncomputable def DL_slices_Concat_Sint_int_2 : LD where
  head := { acts := [], S := { slots := [6, 25, 26, 27], sh := (.cons (.arr 1536) (.cons (.dat (.slice (.slice (.int .i64)))) (.cons (.dat (.int .i64)) (.cons (.dat (.int .i64)) .nil)))), obs := [(1536, .arr 3 (.int .i64))] } }
  exits := [(2, { acts := [], S := { slots := [6], sh := (.cons (.arr 1536) .nil), obs := [(1536, .arr 3 (.int .i64))] } })]
  rets := { acts := [], S := { slots := [], sh := .nil, obs := [] } }
  K := (List (List (Int))) × (Int)
  V := (Int) × (List (Int))
  R := List (Int)
  join := fun k v => (((), (k.1, (k.2, (v.1, ())))), (v.2, ()))
  sk := fun t => (t.1.2.1, t.1.2.2.1)
  sv := fun t => (t.1.2.2.2.1, t.2.1)
  step := S_slices_Concat_Sint_int_2
  leaf := fun _ r => .l (.exit 2 (mkSt ({ slots := [6], sh := (.cons (.arr 1536) .nil), obs := [(1536, .arr 3 (.int .i64))] }) (((), ()), (r, ()))))
noncomputable def T_slices_Concat_Sint_int (a1_ : List (List (Int))) : Tr (List (Int)) :=
  .c (Int) (L_slices_Concat_Sint_int_0 (a1_, (a1_, ((List.length a1_ : Nat) : Int))) ((0 : Int), (0 : Int))) fun r8_ =>
  .c (List (Int)) (F_slices_Grow_Sint_int r8_) fun r9_ =>
  .c (List (Int)) (L_slices_Concat_Sint_int_2 (a1_, ((List.length a1_ : Nat) : Int)) ((0 : Int), r9_)) fun r15_ =>
  .l r15_
noncomputable def F_slices_Concat_Sint_int (a1_ : List (List (Int))) : Option (List (Int)) := (T_slices_Concat_Sint_int a1_).ev
noncomputable def A_slices_Concat_Sint_int : Sh := (.cons (.dat (.slice (.slice (.int .i64)))) .nil)
noncomputable def I_slices_Concat_Sint_int : List (Nat × OSh) := []
noncomputable def K_slices_Concat_Sint_int : RetK := { acts := [.ren 1536 0], res := [.tmp 2], sh := (.cons (.arr 0) .nil), obs := [(0, .arr 3 (.int .i64))], pins := [] }
noncomputable def D_slices_Concat_Sint_int : FD where
  A := A_slices_Concat_Sint_int
  ins := I_slices_Concat_Sint_int
  lend := []
  R := List (Int)
  F := fun x => F_slices_Concat_Sint_int x.1.1
  emb := fun r => ([.arr 0], [(0, .arr 3 (.int .i64) r)])
noncomputable def E_slices_Concat_Sint_int : Env := envOf [(151, D_slices_Grow_Sint_int)]
noncomputable def Z_slices_Concat_Sint_int : Nat → Nat → List Nat := fun _ _ => []
noncomputable def O_slices_Concat_Sint_int : List (Nat × LD) := [(0, DL_slices_Concat_Sint_int_0), (2, DL_slices_Concat_Sint_int_2)]
noncomputable def C_slices_Concat_Sint_int : Code := (f98.body).getD .skip
noncomputable def F_slices_Values_Sint_int (a1_ : List (Int)) : Option (List Int) := some a1_
noncomputable def D_slices_Values_Sint_int : FD := fdValues
noncomputable def F_slices_Collect_int (a1_ : List (Int)) : Option (List Int) := collectF a1_
noncomputable def D_slices_Collect_int : FD := fdCollect
noncomputable def T_math_bits_Len64 (a1_ : Int) : Tr (Int) :=
  .t (decide ((4294967296 : Int) ≤ a1_))
    (.g (decide ((0 : Int) ≤ (32 : Int))) <|
      .t (decide ((65536 : Int) ≤ (Int.fdiv a1_ (2 ^ (min (Int.toNat (32 : Int)) (IntKind.bits .u64))))))
        (.g (decide ((0 : Int) ≤ (16 : Int))) <|
          .t (decide ((256 : Int) ≤ (Int.fdiv (Int.fdiv a1_ (2 ^ (min (Int.toNat (32 : Int)) (IntKind.bits .u64)))) (2 ^ (min (Int.toNat (16 : Int)) (IntKind.bits .u64))))))
            (.g (decide ((0 : Int) ≤ (8 : Int))) <|
              .g (inR (IntKind.wrap .u8 (Int.fdiv (Int.fdiv (Int.fdiv a1_ (2 ^ (min (Int.toNat (32 : Int)) (IntKind.bits .u64)))) (2 ^ (min (Int.toNat (16 : Int)) (IntKind.bits .u64)))) (2 ^ (min (Int.toNat (8 : Int)) (IntKind.bits .u64))))) (List.length ([0, 1, 2, 2, 3, 3, 3, 3, 4, 4, 4, 4, 4, 4, 4, 4, 5, 5, 5, 5, 5, 5, 5, 5, 5, 5, 5, 5, 5, 5, 5, 5, 6, 6, 6, 6, 6, 6, 6, 6, 6, 6, 6, 6, 6, 6, 6, 6, 6, 6, 6, 6, 6, 6, 6, 6, 6, 6, 6, 6, 6, 6, 6, 6, 7, 7, 7, 7, 7, 7, 7, 7, 7, 7, 7, 7, 7, 7, 7, 7, 7, 7, 7, 7, 7, 7, 7, 7, 7, 7, 7, 7, 7, 7, 7, 7, 7, 7, 7, 7, 7, 7, 7, 7, 7, 7, 7, 7, 7, 7, 7, 7, 7, 7, 7, 7, 7, 7, 7, 7, 7, 7, 7, 7, 7, 7, 7, 7, 8, 8, 8, 8, 8, 8, 8, 8, 8, 8, 8, 8, 8, 8, 8, 8, 8, 8, 8, 8, 8, 8, 8, 8, 8, 8, 8, 8, 8, 8, 8, 8, 8, 8, 8, 8, 8, 8, 8, 8, 8, 8, 8, 8, 8, 8, 8, 8, 8, 8, 8, 8, 8, 8, 8, 8, 8, 8, 8, 8, 8, 8, 8, 8, 8, 8, 8, 8, 8, 8, 8, 8, 8, 8, 8, 8, 8, 8, 8, 8, 8, 8, 8, 8, 8, 8, 8, 8, 8, 8, 8, 8, 8, 8, 8, 8, 8, 8, 8, 8, 8, 8, 8, 8, 8, 8, 8, 8, 8, 8, 8, 8, 8, 8, 8, 8, 8, 8, 8, 8, 8, 8, 8, 8, 8, 8, 8, 8] : List UInt8))) <|
              .l (IntKind.wrap .i64 ((IntKind.wrap .i64 ((IntKind.wrap .i64 ((32 : Int) + (16 : Int))) + (8 : Int))) + (IntKind.wrap .i64 ((UInt8.toNat (List.getD ([0, 1, 2, 2, 3, 3, 3, 3, 4, 4, 4, 4, 4, 4, 4, 4, 5, 5, 5, 5, 5, 5, 5, 5, 5, 5, 5, 5, 5, 5, 5, 5, 6, 6, 6, 6, 6, 6, 6, 6, 6, 6, 6, 6, 6, 6, 6, 6, 6, 6, 6, 6, 6, 6, 6, 6, 6, 6, 6, 6, 6, 6, 6, 6, 7, 7, 7, 7, 7, 7, 7, 7, 7, 7, 7, 7, 7, 7, 7, 7, 7, 7, 7, 7, 7, 7, 7, 7, 7, 7, 7, 7, 7, 7, 7, 7, 7, 7, 7, 7, 7, 7, 7, 7, 7, 7, 7, 7, 7, 7, 7, 7, 7, 7, 7, 7, 7, 7, 7, 7, 7, 7, 7, 7, 7, 7, 7, 7, 8, 8, 8, 8, 8, 8, 8, 8, 8, 8, 8, 8, 8, 8, 8, 8, 8, 8, 8, 8, 8, 8, 8, 8, 8, 8, 8, 8, 8, 8, 8, 8, 8, 8, 8, 8, 8, 8, 8, 8, 8, 8, 8, 8, 8, 8, 8, 8, 8, 8, 8, 8, 8, 8, 8, 8, 8, 8, 8, 8, 8, 8, 8, 8, 8, 8, 8, 8, 8, 8, 8, 8, 8, 8, 8, 8, 8, 8, 8, 8, 8, 8, 8, 8, 8, 8, 8, 8, 8, 8, 8, 8, 8, 8, 8, 8, 8, 8, 8, 8, 8, 8, 8, 8, 8, 8, 8, 8, 8, 8, 8, 8, 8, 8, 8, 8, 8, 8, 8, 8, 8, 8, 8, 8, 8, 8, 8, 8] : List UInt8) (Int.toNat (IntKind.wrap .u8 (Int.fdiv (Int.fdiv (Int.fdiv a1_ (2 ^ (min (Int.toNat (32 : Int)) (IntKind.bits .u64)))) (2 ^ (min (Int.toNat (16 : Int)) (IntKind.bits .u64)))) (2 ^ (min (Int.toNat (8 : Int)) (IntKind.bits .u64)))))) 0) : Nat) : Int)))))
            (.g (inR (IntKind.wrap .u8 (Int.fdiv (Int.fdiv a1_ (2 ^ (min (Int.toNat (32 : Int)) (IntKind.bits .u64)))) (2 ^ (min (Int.toNat (16 : Int)) (IntKind.bits .u64))))) (List.length ([0, 1, 2, 2, 3, 3, 3, 3, 4, 4, 4, 4, 4, 4, 4, 4, 5, 5, 5, 5, 5, 5, 5, 5, 5, 5, 5, 5, 5, 5, 5, 5, 6, 6, 6, 6, 6, 6, 6, 6, 6, 6, 6, 6, 6, 6, 6, 6, 6, 6, 6, 6, 6, 6, 6, 6, 6, 6, 6, 6, 6, 6, 6, 6, 7, 7, 7, 7, 7, 7, 7, 7, 7, 7, 7, 7, 7, 7, 7, 7, 7, 7, 7, 7, 7, 7, 7, 7, 7, 7, 7, 7, 7, 7, 7, 7, 7, 7, 7, 7, 7, 7, 7, 7, 7, 7, 7, 7, 7, 7, 7, 7, 7, 7, 7, 7, 7, 7, 7, 7, 7, 7, 7, 7, 7, 7, 7, 7, 8, 8, 8, 8, 8, 8, 8, 8, 8, 8, 8, 8, 8, 8, 8, 8, 8, 8, 8, 8, 8, 8, 8, 8, 8, 8, 8, 8, 8, 8, 8, 8, 8, 8, 8, 8, 8, 8, 8, 8, 8, 8, 8, 8, 8, 8, 8, 8, 8, 8, 8, 8, 8, 8, 8, 8, 8, 8, 8, 8, 8, 8, 8, 8, 8, 8, 8, 8, 8, 8, 8, 8, 8, 8, 8, 8, 8, 8, 8, 8, 8, 8, 8, 8, 8, 8, 8, 8, 8, 8, 8, 8, 8, 8, 8, 8, 8, 8, 8, 8, 8, 8, 8, 8, 8, 8, 8, 8, 8, 8, 8, 8, 8, 8, 8, 8, 8, 8, 8, 8, 8, 8, 8, 8, 8, 8, 8, 8] : List UInt8))) <|
              .l (IntKind.wrap .i64 ((IntKind.wrap .i64 ((32 : Int) + (16 : Int))) + (IntKind.wrap .i64 ((UInt8.toNat (List.getD ([0, 1, 2, 2, 3, 3, 3, 3, 4, 4, 4, 4, 4, 4, 4, 4, 5, 5, 5, 5, 5, 5, 5, 5, 5, 5, 5, 5, 5, 5, 5, 5, 6, 6, 6, 6, 6, 6, 6, 6, 6, 6, 6, 6, 6, 6, 6, 6, 6, 6, 6, 6, 6, 6, 6, 6, 6, 6, 6, 6, 6, 6, 6, 6, 7, 7, 7, 7, 7, 7, 7, 7, 7, 7, 7, 7, 7, 7, 7, 7, 7, 7, 7, 7, 7, 7, 7, 7, 7, 7, 7, 7, 7, 7, 7, 7, 7, 7, 7, 7, 7, 7, 7, 7, 7, 7, 7, 7, 7, 7, 7, 7, 7, 7, 7, 7, 7, 7, 7, 7, 7, 7, 7, 7, 7, 7, 7, 7, 8, 8, 8, 8, 8, 8, 8, 8, 8, 8, 8, 8, 8, 8, 8, 8, 8, 8, 8, 8, 8, 8, 8, 8, 8, 8, 8, 8, 8, 8, 8, 8, 8, 8, 8, 8, 8, 8, 8, 8, 8, 8, 8, 8, 8, 8, 8, 8, 8, 8, 8, 8, 8, 8, 8, 8, 8, 8, 8, 8, 8, 8, 8, 8, 8, 8, 8, 8, 8, 8, 8, 8, 8, 8, 8, 8, 8, 8, 8, 8, 8, 8, 8, 8, 8, 8, 8, 8, 8, 8, 8, 8, 8, 8, 8, 8, 8, 8, 8, 8, 8, 8, 8, 8, 8, 8, 8, 8, 8, 8, 8, 8, 8, 8, 8, 8, 8, 8, 8, 8, 8, 8, 8, 8, 8, 8, 8, 8] : List UInt8) (Int.toNat (IntKind.wrap .u8 (Int.fdiv (Int.fdiv a1_ (2 ^ (min (Int.toNat (32 : Int)) (IntKind.bits .u64)))) (2 ^ (min (Int.toNat (16 : Int)) (IntKind.bits .u64)))))) 0) : Nat) : Int))))))
        (.t (decide ((256 : Int) ≤ (Int.fdiv a1_ (2 ^ (min (Int.toNat (32 : Int)) (IntKind.bits .u64))))))
            (.g (decide ((0 : Int) ≤ (8 : Int))) <|
              .g (inR (IntKind.wrap .u8 (Int.fdiv (Int.fdiv a1_ (2 ^ (min (Int.toNat (32 : Int)) (IntKind.bits .u64)))) (2 ^ (min (Int.toNat (8 : Int)) (IntKind.bits .u64))))) (List.length ([0, 1, 2, 2, 3, 3, 3, 3, 4, 4, 4, 4, 4, 4, 4, 4, 5, 5, 5, 5, 5, 5, 5, 5, 5, 5, 5, 5, 5, 5, 5, 5, 6, 6, 6, 6, 6, 6, 6, 6, 6, 6, 6, 6, 6, 6, 6, 6, 6, 6, 6, 6, 6, 6, 6, 6, 6, 6, 6, 6, 6, 6, 6, 6, 7, 7, 7, 7, 7, 7, 7, 7, 7, 7, 7, 7, 7, 7, 7, 7, 7, 7, 7, 7, 7, 7, 7, 7, 7, 7, 7, 7, 7, 7, 7, 7, 7, 7, 7, 7, 7, 7, 7, 7, 7, 7, 7, 7, 7, 7, 7, 7, 7, 7, 7, 7, 7, 7, 7, 7, 7, 7, 7, 7, 7, 7, 7, 7, 8, 8, 8, 8, 8, 8, 8, 8, 8, 8, 8, 8, 8, 8, 8, 8, 8, 8, 8, 8, 8, 8, 8, 8, 8, 8, 8, 8, 8, 8, 8, 8, 8, 8, 8, 8, 8, 8, 8, 8, 8, 8, 8, 8, 8, 8, 8, 8, 8, 8, 8, 8, 8, 8, 8, 8, 8, 8, 8, 8, 8, 8, 8, 8, 8, 8, 8, 8, 8, 8, 8, 8, 8, 8, 8, 8, 8, 8, 8, 8, 8, 8, 8, 8, 8, 8, 8, 8, 8, 8, 8, 8, 8, 8, 8, 8, 8, 8, 8, 8, 8, 8, 8, 8, 8, 8, 8, 8, 8, 8, 8, 8, 8, 8, 8, 8, 8, 8, 8, 8, 8, 8, 8, 8, 8, 8, 8, 8] : List UInt8))) <|
              .l (IntKind.wrap .i64 ((IntKind.wrap .i64 ((32 : Int) + (8 : Int))) + (IntKind.wrap .i64 ((UInt8.toNat (List.getD ([0, 1, 2, 2, 3, 3, 3, 3, 4, 4, 4, 4, 4, 4, 4, 4, 5, 5, 5, 5, 5, 5, 5, 5, 5, 5, 5, 5, 5, 5, 5, 5, 6, 6, 6, 6, 6, 6, 6, 6, 6, 6, 6, 6, 6, 6, 6, 6, 6, 6, 6, 6, 6, 6, 6, 6, 6, 6, 6, 6, 6, 6, 6, 6, 7, 7, 7, 7, 7, 7, 7, 7, 7, 7, 7, 7, 7, 7, 7, 7, 7, 7, 7, 7, 7, 7, 7, 7, 7, 7, 7, 7, 7, 7, 7, 7, 7, 7, 7, 7, 7, 7, 7, 7, 7, 7, 7, 7, 7, 7, 7, 7, 7, 7, 7, 7, 7, 7, 7, 7, 7, 7, 7, 7, 7, 7, 7, 7, 8, 8, 8, 8, 8, 8, 8, 8, 8, 8, 8, 8, 8, 8, 8, 8, 8, 8, 8, 8, 8, 8, 8, 8, 8, 8, 8, 8, 8, 8, 8, 8, 8, 8, 8, 8, 8, 8, 8, 8, 8, 8, 8, 8, 8, 8, 8, 8, 8, 8, 8, 8, 8, 8, 8, 8, 8, 8, 8, 8, 8, 8, 8, 8, 8, 8, 8, 8, 8, 8, 8, 8, 8, 8, 8, 8, 8, 8, 8, 8, 8, 8, 8, 8, 8, 8, 8, 8, 8, 8, 8, 8, 8, 8, 8, 8, 8, 8, 8, 8, 8, 8, 8, 8, 8, 8, 8, 8, 8, 8, 8, 8, 8, 8, 8, 8, 8, 8, 8, 8, 8, 8, 8, 8, 8, 8, 8, 8] : List UInt8) (Int.toNat (IntKind.wrap .u8 (Int.fdiv (Int.fdiv a1_ (2 ^ (min (Int.toNat (32 : Int)) (IntKind.bits .u64)))) (2 ^ (min (Int.toNat (8 : Int)) (IntKind.bits .u64)))))) 0) : Nat) : Int)))))
            (.g (inR (IntKind.wrap .u8 (Int.fdiv a1_ (2 ^ (min (Int.toNat (32 : Int)) (IntKind.bits .u64))))) (List.length ([0, 1, 2, 2, 3, 3, 3, 3, 4, 4, 4, 4, 4, 4, 4, 4, 5, 5, 5, 5, 5, 5, 5, 5, 5, 5, 5, 5, 5, 5, 5, 5, 6, 6, 6, 6, 6, 6, 6, 6, 6, 6, 6, 6, 6, 6, 6, 6, 6, 6, 6, 6, 6, 6, 6, 6, 6, 6, 6, 6, 6, 6, 6, 6, 7, 7, 7, 7, 7, 7, 7, 7, 7, 7, 7, 7, 7, 7, 7, 7, 7, 7, 7, 7, 7, 7, 7, 7, 7, 7, 7, 7, 7, 7, 7, 7, 7, 7, 7, 7, 7, 7, 7, 7, 7, 7, 7, 7, 7, 7, 7, 7, 7, 7, 7, 7, 7, 7, 7, 7, 7, 7, 7, 7, 7, 7, 7, 7, 8, 8, 8, 8, 8, 8, 8, 8, 8, 8, 8, 8, 8, 8, 8, 8, 8, 8, 8, 8, 8, 8, 8, 8, 8, 8, 8, 8, 8, 8, 8, 8, 8, 8, 8, 8, 8, 8, 8, 8, 8, 8, 8, 8, 8, 8, 8, 8, 8, 8, 8, 8, 8, 8, 8, 8, 8, 8, 8, 8, 8, 8, 8, 8, 8, 8, 8, 8, 8, 8, 8, 8, 8, 8, 8, 8, 8, 8, 8, 8, 8, 8, 8, 8, 8, 8, 8, 8, 8, 8, 8, 8, 8, 8, 8, 8, 8, 8, 8, 8, 8, 8, 8, 8, 8, 8, 8, 8, 8, 8, 8, 8, 8, 8, 8, 8, 8, 8, 8, 8, 8, 8, 8, 8, 8, 8, 8, 8] : List UInt8))) <|
              .l (IntKind.wrap .i64 ((32 : Int) + (IntKind.wrap .i64 ((UInt8.toNat (List.getD ([0, 1, 2, 2, 3, 3, 3, 3, 4, 4, 4, 4, 4, 4, 4, 4, 5, 5, 5, 5, 5, 5, 5, 5, 5, 5, 5, 5, 5, 5, 5, 5, 6, 6, 6, 6, 6, 6, 6, 6, 6, 6, 6, 6, 6, 6, 6, 6, 6, 6, 6, 6, 6, 6, 6, 6, 6, 6, 6, 6, 6, 6, 6, 6, 7, 7, 7, 7, 7, 7, 7, 7, 7, 7, 7, 7, 7, 7, 7, 7, 7, 7, 7, 7, 7, 7, 7, 7, 7, 7, 7, 7, 7, 7, 7, 7, 7, 7, 7, 7, 7, 7, 7, 7, 7, 7, 7, 7, 7, 7, 7, 7, 7, 7, 7, 7, 7, 7, 7, 7, 7, 7, 7, 7, 7, 7, 7, 7, 8, 8, 8, 8, 8, 8, 8, 8, 8, 8, 8, 8, 8, 8, 8, 8, 8, 8, 8, 8, 8, 8, 8, 8, 8, 8, 8, 8, 8, 8, 8, 8, 8, 8, 8, 8, 8, 8, 8, 8, 8, 8, 8, 8, 8, 8, 8, 8, 8, 8, 8, 8, 8, 8, 8, 8, 8, 8, 8, 8, 8, 8, 8, 8, 8, 8, 8, 8, 8, 8, 8, 8, 8, 8, 8, 8, 8, 8, 8, 8, 8, 8, 8, 8, 8, 8, 8, 8, 8, 8, 8, 8, 8, 8, 8, 8, 8, 8, 8, 8, 8, 8, 8, 8, 8, 8, 8, 8, 8, 8, 8, 8, 8, 8, 8, 8, 8, 8, 8, 8, 8, 8, 8, 8, 8, 8, 8, 8] : List UInt8) (Int.toNat (IntKind.wrap .u8 (Int.fdiv a1_ (2 ^ (min (Int.toNat (32 : Int)) (IntKind.bits .u64)))))) 0) : Nat) : Int)))))))
    (.t (decide ((65536 : Int) ≤ a1_))
        (.g (decide ((0 : Int) ≤ (16 : Int))) <|
          .t (decide ((256 : Int) ≤ (Int.fdiv a1_ (2 ^ (min (Int.toNat (16 : Int)) (IntKind.bits .u64))))))
            (.g (decide ((0 : Int) ≤ (8 : Int))) <|
              .g (inR (IntKind.wrap .u8 (Int.fdiv (Int.fdiv a1_ (2 ^ (min (Int.toNat (16 : Int)) (IntKind.bits .u64)))) (2 ^ (min (Int.toNat (8 : Int)) (IntKind.bits .u64))))) (List.length ([0, 1, 2, 2, 3, 3, 3, 3, 4, 4, 4, 4, 4, 4, 4, 4, 5, 5, 5, 5, 5, 5, 5, 5, 5, 5, 5, 5, 5, 5, 5, 5, 6, 6, 6, 6, 6, 6, 6, 6, 6, 6, 6, 6, 6, 6, 6, 6, 6, 6, 6, 6, 6, 6, 6, 6, 6, 6, 6, 6, 6, 6, 6, 6, 7, 7, 7, 7, 7, 7, 7, 7, 7, 7, 7, 7, 7, 7, 7, 7, 7, 7, 7, 7, 7, 7, 7, 7, 7, 7, 7, 7, 7, 7, 7, 7, 7, 7, 7, 7, 7, 7, 7, 7, 7, 7, 7, 7, 7, 7, 7, 7, 7, 7, 7, 7, 7, 7, 7, 7, 7, 7, 7, 7, 7, 7, 7, 7, 8, 8, 8, 8, 8, 8, 8, 8, 8, 8, 8, 8, 8, 8, 8, 8, 8, 8, 8, 8, 8, 8, 8, 8, 8, 8, 8, 8, 8, 8, 8, 8, 8, 8, 8, 8, 8, 8, 8, 8, 8, 8, 8, 8, 8, 8, 8, 8, 8, 8, 8, 8, 8, 8, 8, 8, 8, 8, 8, 8, 8, 8, 8, 8, 8, 8, 8, 8, 8, 8, 8, 8, 8, 8, 8, 8, 8, 8, 8, 8, 8, 8, 8, 8, 8, 8, 8, 8, 8, 8, 8, 8, 8, 8, 8, 8, 8, 8, 8, 8, 8, 8, 8, 8, 8, 8, 8, 8, 8, 8, 8, 8, 8, 8, 8, 8, 8, 8, 8, 8, 8, 8, 8, 8, 8, 8, 8, 8] : List UInt8))) <|
              .l (IntKind.wrap .i64 ((IntKind.wrap .i64 ((IntKind.wrap .i64 ((0 : Int) + (16 : Int))) + (8 : Int))) + (IntKind.wrap .i64 ((UInt8.toNat (List.getD ([0, 1, 2, 2, 3, 3, 3, 3, 4, 4, 4, 4, 4, 4, 4, 4, 5, 5, 5, 5, 5, 5, 5, 5, 5, 5, 5, 5, 5, 5, 5, 5, 6, 6, 6, 6, 6, 6, 6, 6, 6, 6, 6, 6, 6, 6, 6, 6, 6, 6, 6, 6, 6, 6, 6, 6, 6, 6, 6, 6, 6, 6, 6, 6, 7, 7, 7, 7, 7, 7, 7, 7, 7, 7, 7, 7, 7, 7, 7, 7, 7, 7, 7, 7, 7, 7, 7, 7, 7, 7, 7, 7, 7, 7, 7, 7, 7, 7, 7, 7, 7, 7, 7, 7, 7, 7, 7, 7, 7, 7, 7, 7, 7, 7, 7, 7, 7, 7, 7, 7, 7, 7, 7, 7, 7, 7, 7, 7, 8, 8, 8, 8, 8, 8, 8, 8, 8, 8, 8, 8, 8, 8, 8, 8, 8, 8, 8, 8, 8, 8, 8, 8, 8, 8, 8, 8, 8, 8, 8, 8, 8, 8, 8, 8, 8, 8, 8, 8, 8, 8, 8, 8, 8, 8, 8, 8, 8, 8, 8, 8, 8, 8, 8, 8, 8, 8, 8, 8, 8, 8, 8, 8, 8, 8, 8, 8, 8, 8, 8, 8, 8, 8, 8, 8, 8, 8, 8, 8, 8, 8, 8, 8, 8, 8, 8, 8, 8, 8, 8, 8, 8, 8, 8, 8, 8, 8, 8, 8, 8, 8, 8, 8, 8, 8, 8, 8, 8, 8, 8, 8, 8, 8, 8, 8, 8, 8, 8, 8, 8, 8, 8, 8, 8, 8, 8, 8] : List UInt8) (Int.toNat (IntKind.wrap .u8 (Int.fdiv (Int.fdiv a1_ (2 ^ (min (Int.toNat (16 : Int)) (IntKind.bits .u64)))) (2 ^ (min (Int.toNat (8 : Int)) (IntKind.bits .u64)))))) 0) : Nat) : Int)))))
            (.g (inR (IntKind.wrap .u8 (Int.fdiv a1_ (2 ^ (min (Int.toNat (16 : Int)) (IntKind.bits .u64))))) (List.length ([0, 1, 2, 2, 3, 3, 3, 3, 4, 4, 4, 4, 4, 4, 4, 4, 5, 5, 5, 5, 5, 5, 5, 5, 5, 5, 5, 5, 5, 5, 5, 5, 6, 6, 6, 6, 6, 6, 6, 6, 6, 6, 6, 6, 6, 6, 6, 6, 6, 6, 6, 6, 6, 6, 6, 6, 6, 6, 6, 6, 6, 6, 6, 6, 7, 7, 7, 7, 7, 7, 7, 7, 7, 7, 7, 7, 7, 7, 7, 7, 7, 7, 7, 7, 7, 7, 7, 7, 7, 7, 7, 7, 7, 7, 7, 7, 7, 7, 7, 7, 7, 7, 7, 7, 7, 7, 7, 7, 7, 7, 7, 7, 7, 7, 7, 7, 7, 7, 7, 7, 7, 7, 7, 7, 7, 7, 7, 7, 8, 8, 8, 8, 8, 8, 8, 8, 8, 8, 8, 8, 8, 8, 8, 8, 8, 8, 8, 8, 8, 8, 8, 8, 8, 8, 8, 8, 8, 8, 8, 8, 8, 8, 8, 8, 8, 8, 8, 8, 8, 8, 8, 8, 8, 8, 8, 8, 8, 8, 8, 8, 8, 8, 8, 8, 8, 8, 8, 8, 8, 8, 8, 8, 8, 8, 8, 8, 8, 8, 8, 8, 8, 8, 8, 8, 8, 8, 8, 8, 8, 8, 8, 8, 8, 8, 8, 8, 8, 8, 8, 8, 8, 8, 8, 8, 8, 8, 8, 8, 8, 8, 8, 8, 8, 8, 8, 8, 8, 8, 8, 8, 8, 8, 8, 8, 8, 8, 8, 8, 8, 8, 8, 8, 8, 8, 8, 8] : List UInt8))) <|
              .l (IntKind.wrap .i64 ((IntKind.wrap .i64 ((0 : Int) + (16 : Int))) + (IntKind.wrap .i64 ((UInt8.toNat (List.getD ([0, 1, 2, 2, 3, 3, 3, 3, 4, 4, 4, 4, 4, 4, 4, 4, 5, 5, 5, 5, 5, 5, 5, 5, 5, 5, 5, 5, 5, 5, 5, 5, 6, 6, 6, 6, 6, 6, 6, 6, 6, 6, 6, 6, 6, 6, 6, 6, 6, 6, 6, 6, 6, 6, 6, 6, 6, 6, 6, 6, 6, 6, 6, 6, 7, 7, 7, 7, 7, 7, 7, 7, 7, 7, 7, 7, 7, 7, 7, 7, 7, 7, 7, 7, 7, 7, 7, 7, 7, 7, 7, 7, 7, 7, 7, 7, 7, 7, 7, 7, 7, 7, 7, 7, 7, 7, 7, 7, 7, 7, 7, 7, 7, 7, 7, 7, 7, 7, 7, 7, 7, 7, 7, 7, 7, 7, 7, 7, 8, 8, 8, 8, 8, 8, 8, 8, 8, 8, 8, 8, 8, 8, 8, 8, 8, 8, 8, 8, 8, 8, 8, 8, 8, 8, 8, 8, 8, 8, 8, 8, 8, 8, 8, 8, 8, 8, 8, 8, 8, 8, 8, 8, 8, 8, 8, 8, 8, 8, 8, 8, 8, 8, 8, 8, 8, 8, 8, 8, 8, 8, 8, 8, 8, 8, 8, 8, 8, 8, 8, 8, 8, 8, 8, 8, 8, 8, 8, 8, 8, 8, 8, 8, 8, 8, 8, 8, 8, 8, 8, 8, 8, 8, 8, 8, 8, 8, 8, 8, 8, 8, 8, 8, 8, 8, 8, 8, 8, 8, 8, 8, 8, 8, 8, 8, 8, 8, 8, 8, 8, 8, 8, 8, 8, 8, 8, 8] : List UInt8) (Int.toNat (IntKind.wrap .u8 (Int.fdiv a1_ (2 ^ (min (Int.toNat (16 : Int)) (IntKind.bits .u64)))))) 0) : Nat) : Int))))))
        (.t (decide ((256 : Int) ≤ a1_))
            (.g (decide ((0 : Int) ≤ (8 : Int))) <|
              .g (inR (IntKind.wrap .u8 (Int.fdiv a1_ (2 ^ (min (Int.toNat (8 : Int)) (IntKind.bits .u64))))) (List.length ([0, 1, 2, 2, 3, 3, 3, 3, 4, 4, 4, 4, 4, 4, 4, 4, 5, 5, 5, 5, 5, 5, 5, 5, 5, 5, 5, 5, 5, 5, 5, 5, 6, 6, 6, 6, 6, 6, 6, 6, 6, 6, 6, 6, 6, 6, 6, 6, 6, 6, 6, 6, 6, 6, 6, 6, 6, 6, 6, 6, 6, 6, 6, 6, 7, 7, 7, 7, 7, 7, 7, 7, 7, 7, 7, 7, 7, 7, 7, 7, 7, 7, 7, 7, 7, 7, 7, 7, 7, 7, 7, 7, 7, 7, 7, 7, 7, 7, 7, 7, 7, 7, 7, 7, 7, 7, 7, 7, 7, 7, 7, 7, 7, 7, 7, 7, 7, 7, 7, 7, 7, 7, 7, 7, 7, 7, 7, 7, 8, 8, 8, 8, 8, 8, 8, 8, 8, 8, 8, 8, 8, 8, 8, 8, 8, 8, 8, 8, 8, 8, 8, 8, 8, 8, 8, 8, 8, 8, 8, 8, 8, 8, 8, 8, 8, 8, 8, 8, 8, 8, 8, 8, 8, 8, 8, 8, 8, 8, 8, 8, 8, 8, 8, 8, 8, 8, 8, 8, 8, 8, 8, 8, 8, 8, 8, 8, 8, 8, 8, 8, 8, 8, 8, 8, 8, 8, 8, 8, 8, 8, 8, 8, 8, 8, 8, 8, 8, 8, 8, 8, 8, 8, 8, 8, 8, 8, 8, 8, 8, 8, 8, 8, 8, 8, 8, 8, 8, 8, 8, 8, 8, 8, 8, 8, 8, 8, 8, 8, 8, 8, 8, 8, 8, 8, 8, 8] : List UInt8))) <|
              .l (IntKind.wrap .i64 ((IntKind.wrap .i64 ((0 : Int) + (8 : Int))) + (IntKind.wrap .i64 ((UInt8.toNat (List.getD ([0, 1, 2, 2, 3, 3, 3, 3, 4, 4, 4, 4, 4, 4, 4, 4, 5, 5, 5, 5, 5, 5, 5, 5, 5, 5, 5, 5, 5, 5, 5, 5, 6, 6, 6, 6, 6, 6, 6, 6, 6, 6, 6, 6, 6, 6, 6, 6, 6, 6, 6, 6, 6, 6, 6, 6, 6, 6, 6, 6, 6, 6, 6, 6, 7, 7, 7, 7, 7, 7, 7, 7, 7, 7, 7, 7, 7, 7, 7, 7, 7, 7, 7, 7, 7, 7, 7, 7, 7, 7, 7, 7, 7, 7, 7, 7, 7, 7, 7, 7, 7, 7, 7, 7, 7, 7, 7, 7, 7, 7, 7, 7, 7, 7, 7, 7, 7, 7, 7, 7, 7, 7, 7, 7, 7, 7, 7, 7, 8, 8, 8, 8, 8, 8, 8, 8, 8, 8, 8, 8, 8, 8, 8, 8, 8, 8, 8, 8, 8, 8, 8, 8, 8, 8, 8, 8, 8, 8, 8, 8, 8, 8, 8, 8, 8, 8, 8, 8, 8, 8, 8, 8, 8, 8, 8, 8, 8, 8, 8, 8, 8, 8, 8, 8, 8, 8, 8, 8, 8, 8, 8, 8, 8, 8, 8, 8, 8, 8, 8, 8, 8, 8, 8, 8, 8, 8, 8, 8, 8, 8, 8, 8, 8, 8, 8, 8, 8, 8, 8, 8, 8, 8, 8, 8, 8, 8, 8, 8, 8, 8, 8, 8, 8, 8, 8, 8, 8, 8, 8, 8, 8, 8, 8, 8, 8, 8, 8, 8, 8, 8, 8, 8, 8, 8, 8, 8] : List UInt8) (Int.toNat (IntKind.wrap .u8 (Int.fdiv a1_ (2 ^ (min (Int.toNat (8 : Int)) (IntKind.bits .u64)))))) 0) : Nat) : Int)))))
            (.g (inR (IntKind.wrap .u8 a1_) (List.length ([0, 1, 2, 2, 3, 3, 3, 3, 4, 4, 4, 4, 4, 4, 4, 4, 5, 5, 5, 5, 5, 5, 5, 5, 5, 5, 5, 5, 5, 5, 5, 5, 6, 6, 6, 6, 6, 6, 6, 6, 6, 6, 6, 6, 6, 6, 6, 6, 6, 6, 6, 6, 6, 6, 6, 6, 6, 6, 6, 6, 6, 6, 6, 6, 7, 7, 7, 7, 7, 7, 7, 7, 7, 7, 7, 7, 7, 7, 7, 7, 7, 7, 7, 7, 7, 7, 7, 7, 7, 7, 7, 7, 7, 7, 7, 7, 7, 7, 7, 7, 7, 7, 7, 7, 7, 7, 7, 7, 7, 7, 7, 7, 7, 7, 7, 7, 7, 7, 7, 7, 7, 7, 7, 7, 7, 7, 7, 7, 8, 8, 8, 8, 8, 8, 8, 8, 8, 8, 8, 8, 8, 8, 8, 8, 8, 8, 8, 8, 8, 8, 8, 8, 8, 8, 8, 8, 8, 8, 8, 8, 8, 8, 8, 8, 8, 8, 8, 8, 8, 8, 8, 8, 8, 8, 8, 8, 8, 8, 8, 8, 8, 8, 8, 8, 8, 8, 8, 8, 8, 8, 8, 8, 8, 8, 8, 8, 8, 8, 8, 8, 8, 8, 8, 8, 8, 8, 8, 8, 8, 8, 8, 8, 8, 8, 8, 8, 8, 8, 8, 8, 8, 8, 8, 8, 8, 8, 8, 8, 8, 8, 8, 8, 8, 8, 8, 8, 8, 8, 8, 8, 8, 8, 8, 8, 8, 8, 8, 8, 8, 8, 8, 8, 8, 8, 8, 8] : List UInt8))) <|
              .l (IntKind.wrap .i64 ((0 : Int) + (IntKind.wrap .i64 ((UInt8.toNat (List.getD ([0, 1, 2, 2, 3, 3, 3, 3, 4, 4, 4, 4, 4, 4, 4, 4, 5, 5, 5, 5, 5, 5, 5, 5, 5, 5, 5, 5, 5, 5, 5, 5, 6, 6, 6, 6, 6, 6, 6, 6, 6, 6, 6, 6, 6, 6, 6, 6, 6, 6, 6, 6, 6, 6, 6, 6, 6, 6, 6, 6, 6, 6, 6, 6, 7, 7, 7, 7, 7, 7, 7, 7, 7, 7, 7, 7, 7, 7, 7, 7, 7, 7, 7, 7, 7, 7, 7, 7, 7, 7, 7, 7, 7, 7, 7, 7, 7, 7, 7, 7, 7, 7, 7, 7, 7, 7, 7, 7, 7, 7, 7, 7, 7, 7, 7, 7, 7, 7, 7, 7, 7, 7, 7, 7, 7, 7, 7, 7, 8, 8, 8, 8, 8, 8, 8, 8, 8, 8, 8, 8, 8, 8, 8, 8, 8, 8, 8, 8, 8, 8, 8, 8, 8, 8, 8, 8, 8, 8, 8, 8, 8, 8, 8, 8, 8, 8, 8, 8, 8, 8, 8, 8, 8, 8, 8, 8, 8, 8, 8, 8, 8, 8, 8, 8, 8, 8, 8, 8, 8, 8, 8, 8, 8, 8, 8, 8, 8, 8, 8, 8, 8, 8, 8, 8, 8, 8, 8, 8, 8, 8, 8, 8, 8, 8, 8, 8, 8, 8, 8, 8, 8, 8, 8, 8, 8, 8, 8, 8, 8, 8, 8, 8, 8, 8, 8, 8, 8, 8, 8, 8, 8, 8, 8, 8, 8, 8, 8, 8, 8, 8, 8, 8, 8, 8, 8, 8] : List UInt8) (Int.toNat (IntKind.wrap .u8 a1_)) 0) : Nat) : Int)))))))
noncomputable def F_math_bits_Len64 (a1_ : Int) : Option (Int) := (T_math_bits_Len64 a1_).ev
noncomputable def A_math_bits_Len64 : Sh := (.cons (.dat (.int .u64)) .nil)
noncomputable def I_math_bits_Len64 : List (Nat × OSh) := []
noncomputable def K_math_bits_Len64 : RetK := { acts := [], res := [.tmp 2], sh := (.cons (.dat (.int .i64)) .nil), obs := [], pins := [] }
noncomputable def D_math_bits_Len64 : FD where
  A := A_math_bits_Len64
  ins := I_math_bits_Len64
  lend := []
  R := Int
  F := fun x => F_math_bits_Len64 x.1.1
  emb := fun r => ([.dat (.int .i64) r], [])
noncomputable def E_math_bits_Len64 : Env := envOf []
noncomputable def Z_math_bits_Len64 : Nat → Nat → List Nat := fun _ _ => []
noncomputable def O_math_bits_Len64 : List (Nat × LD) := []
noncomputable def C_math_bits_Len64 : Code := (f216.body).getD .skip
noncomputable def T_math_bits_Len (a1_ : Int) : Tr (Int) :=
  .c (Int) (F_math_bits_Len64 a1_) fun r1_ =>
  .l r1_
noncomputable def F_math_bits_Len (a1_ : Int) : Option (Int) := (T_math_bits_Len a1_).ev
noncomputable def A_math_bits_Len : Sh := (.cons (.dat (.int .u64)) .nil)
noncomputable def I_math_bits_Len : List (Nat × OSh) := []
noncomputable def K_math_bits_Len : RetK := { acts := [], res := [.tmp 2], sh := (.cons (.dat (.int .i64)) .nil), obs := [], pins := [] }
noncomputable def D_math_bits_Len : FD where
  A := A_math_bits_Len
  ins := I_math_bits_Len
  lend := []
  R := Int
  F := fun x => F_math_bits_Len x.1.1
  emb := fun r => ([.dat (.int .i64) r], [])
noncomputable def E_math_bits_Len : Env := envOf [(216, D_math_bits_Len64)]
noncomputable def Z_math_bits_Len : Nat → Nat → List Nat := fun _ _ => []
noncomputable def O_math_bits_Len : List (Nat × LD) := []
noncomputable def C_math_bits_Len : Code := (f186.body).getD .skip
noncomputable def T_cmp_isNaN_int (a1_ : Int) : Tr (Bool) :=
  .l (a1_ != a1_)
noncomputable def F_cmp_isNaN_int (a1_ : Int) : Option (Bool) := (T_cmp_isNaN_int a1_).ev
noncomputable def A_cmp_isNaN_int : Sh := (.cons (.dat (.int .i64)) .nil)
noncomputable def I_cmp_isNaN_int : List (Nat × OSh) := []
noncomputable def K_cmp_isNaN_int : RetK := { acts := [], res := [.tmp 2], sh := (.cons (.dat .bool) .nil), obs := [], pins := [] }
noncomputable def D_cmp_isNaN_int : FD where
  A := A_cmp_isNaN_int
  ins := I_cmp_isNaN_int
  lend := []
  R := Bool
  F := fun x => F_cmp_isNaN_int x.1.1
  emb := fun r => ([.dat .bool r], [])
noncomputable def E_cmp_isNaN_int : Env := envOf []
noncomputable def Z_cmp_isNaN_int : Nat → Nat → List Nat := fun _ _ => []
noncomputable def O_cmp_isNaN_int : List (Nat × LD) := []
noncomputable def C_cmp_isNaN_int : Code := (f195.body).getD .skip
noncomputable def T_cmp_Less_int (a1_ : Int) (a2_ : Int) : Tr (Bool) :=
  .c (Bool) (F_cmp_isNaN_int a1_) fun r1_ =>
  .t r1_
    (.c (Bool) (F_cmp_isNaN_int a2_) fun r2_ =>
      .t (!r2_)
        (.l true)
        (.l (decide (a1_ < a2_))))
    (.l (decide (a1_ < a2_)))
noncomputable def F_cmp_Less_int (a1_ : Int) (a2_ : Int) : Option (Bool) := (T_cmp_Less_int a1_ a2_).ev
noncomputable def A_cmp_Less_int : Sh := (.cons (.dat (.int .i64)) (.cons (.dat (.int .i64)) .nil))
noncomputable def I_cmp_Less_int : List (Nat × OSh) := []
noncomputable def K_cmp_Less_int : RetK := { acts := [], res := [.tmp 4], sh := (.cons (.dat .bool) .nil), obs := [], pins := [] }
noncomputable def D_cmp_Less_int : FD where
  A := A_cmp_Less_int
  ins := I_cmp_Less_int
  lend := []
  R := Bool
  F := fun x => F_cmp_Less_int x.1.1 x.1.2.1
  emb := fun r => ([.dat .bool r], [])
noncomputable def E_cmp_Less_int : Env := envOf [(195, D_cmp_isNaN_int)]
noncomputable def Z_cmp_Less_int : Nat → Nat → List Nat := fun _ _ => []
noncomputable def O_cmp_Less_int : List (Nat × LD) := []
noncomputable def C_cmp_Less_int : Code := (f212.body).getD .skip
noncomputable def S_slices_insertionSortOrdered_int_2 (k : (Int) × ((Int) × (Int))) (v : (Int) × (List (Int))) : Tr (((Int) × (List (Int))) ⊕ (List (Int))) :=
  .t (decide (k.1 < v.1))
    (.g (inR v.1 (List.length v.2)) <|
      .g (decide ((Int.toNat v.1) < List.length v.2)) <|
      .g (inR (IntKind.wrap .i64 (v.1 - (1 : Int))) (List.length v.2)) <|
      .g (decide ((Int.toNat (IntKind.wrap .i64 (v.1 - (1 : Int)))) < List.length v.2)) <|
      .c (Bool) (F_cmp_Less_int (List.getD v.2 (Int.toNat v.1) (0 : Int)) (List.getD v.2 (Int.toNat (IntKind.wrap .i64 (v.1 - (1 : Int)))) (0 : Int))) fun r10_ =>
      .t r10_
        (.g (inR (IntKind.wrap .i64 (v.1 - (1 : Int))) (List.length v.2)) <|
          .g (decide ((Int.toNat (IntKind.wrap .i64 (v.1 - (1 : Int)))) < List.length v.2)) <|
          .g (inR v.1 (List.length v.2)) <|
          .g (decide ((Int.toNat v.1) < List.length v.2)) <|
          .g (inR v.1 (List.length v.2)) <|
          .g (decide ((Int.toNat v.1) < List.length v.2)) <|
          .g (inR (IntKind.wrap .i64 (v.1 - (1 : Int))) (List.length (List.set v.2 (Int.toNat v.1) (List.getD v.2 (Int.toNat (IntKind.wrap .i64 (v.1 - (1 : Int)))) (0 : Int))))) <|
          .g (decide ((Int.toNat (IntKind.wrap .i64 (v.1 - (1 : Int)))) < List.length (List.set v.2 (Int.toNat v.1) (List.getD v.2 (Int.toNat (IntKind.wrap .i64 (v.1 - (1 : Int)))) (0 : Int))))) <|
          .l (.inl ((IntKind.wrap .i64 (v.1 - (1 : Int))), (List.set (List.set v.2 (Int.toNat v.1) (List.getD v.2 (Int.toNat (IntKind.wrap .i64 (v.1 - (1 : Int)))) (0 : Int))) (Int.toNat (IntKind.wrap .i64 (v.1 - (1 : Int)))) (List.getD v.2 (Int.toNat v.1) (0 : Int))))))
        (.l (.inr v.2)))
    (.l (.inr v.2))
noncomputable def L_slices_insertionSortOrdered_int_2 (k : (Int) × ((Int) × (Int))) (v : (Int) × (List (Int))) : Option (List (Int)) := iter (fun v => (S_slices_insertionSortOrdered_int_2 k v).ev) v
noncomputable def DL_slices_insertionSortOrdered_int_2 : LD where
  head := { acts := [], S := { slots := [0, 1, 2, 6, 7], sh := (.cons (.arr 64) (.cons (.dat (.int .i64)) (.cons (.dat (.int .i64)) (.cons (.dat (.int .i64)) (.cons (.dat (.int .i64)) .nil))))), obs := [(64, .arr 3 (.int .i64))] } }
  exits := [(2, { acts := [], S := { slots := [0, 1, 2, 6], sh := (.cons (.arr 64) (.cons (.dat (.int .i64)) (.cons (.dat (.int .i64)) (.cons (.dat (.int .i64)) .nil)))), obs := [(64, .arr 3 (.int .i64))] } })]
  rets := { acts := [], S := { slots := [], sh := .nil, obs := [] } }
  K := (Int) × ((Int) × (Int))
  V := (Int) × (List (Int))
  R := List (Int)
  join := fun k v => (((), (k.1, (k.2.1, (k.2.2, (v.1, ()))))), (v.2, ()))
  sk := fun t => (t.1.2.1, (t.1.2.2.1, t.1.2.2.2.1))
  sv := fun t => (t.1.2.2.2.2.1, t.2.1)
  step := S_slices_insertionSortOrdered_int_2
  leaf := fun k r => .l (.exit 2 (mkSt ({ slots := [0, 1, 2, 6], sh := (.cons (.arr 64) (.cons (.dat (.int .i64)) (.cons (.dat (.int .i64)) (.cons (.dat (.int .i64)) .nil)))), obs := [(64, .arr 3 (.int .i64))] }) (((), (k.1, (k.2.1, (k.2.2, ())))), (r, ()))))
noncomputable def S_slices_insertionSortOrdered_int_0 (k : (Int) × (Int)) (v : (Int) × (List (Int))) : Tr (((Int) × (List (Int))) ⊕ (List (Int))) :=
  .t (decide (v.1 < k.2))
    (.c (List (Int)) (L_slices_insertionSortOrdered_int_2 (k.1, (k.2, v.1)) (v.1, v.2)) fun r15_ =>
      .l (.inl ((IntKind.wrap .i64 (v.1 + (1 : Int))), r15_)))
    (.l (.inr v.2))
noncomputable def L_slices_insertionSortOrdered_int_0 (k : (Int) × (Int)) (v : (Int) × (List (Int))) : Option (List (Int)) := iter (fun v => (S_slices_insertionSortOrdered_int_0 k v).ev) v
noncomputable def DL_slices_insertionSortOrdered_int_0 : LD where
  head := { acts := [], S := { slots := [0, 1, 2, 6], sh := (.cons (.arr 64) (.cons (.dat (.int .i64)) (.cons (.dat (.int .i64)) (.cons (.dat (.int .i64)) .nil)))), obs := [(64, .arr 3 (.int .i64))] } }
  exits := [(0, { acts := [], S := { slots := [0], sh := (.cons (.arr 64) .nil), obs := [(64, .arr 3 (.int .i64))] } })]
  rets := { acts := [], S := { slots := [], sh := .nil, obs := [] } }
  K := (Int) × (Int)
  V := (Int) × (List (Int))
  R := List (Int)
  join := fun k v => (((), (k.1, (k.2, (v.1, ())))), (v.2, ()))
  sk := fun t => (t.1.2.1, t.1.2.2.1)
  sv := fun t => (t.1.2.2.2.1, t.2.1)
  step := S_slices_insertionSortOrdered_int_0
  leaf := fun _ r => .l (.exit 0 (mkSt ({ slots := [0], sh := (.cons (.arr 64) .nil), obs := [(64, .arr 3 (.int .i64))] }) (((), ()), (r, ()))))
noncomputable def T_slices_insertionSortOrdered_int (a2_ : Int) (a3_ : Int) (a1_ : List (Int)) : Tr (List (Int)) :=
  .c (List (Int)) (L_slices_insertionSortOrdered_int_0 (a2_, a3_) ((IntKind.wrap .i64 (a2_ + (1 : Int))), a1_)) fun r17_ =>
  .l r17_
noncomputable def F_slices_insertionSortOrdered_int (a2_ : Int) (a3_ : Int) (a1_ : List (Int)) : Option (List (Int)) := (T_slices_insertionSortOrdered_int a2_ a3_ a1_).ev
noncomputable def A_slices_insertionSortOrdered_int : Sh := (.cons (.arr 64) (.cons (.dat (.int .i64)) (.cons (.dat (.int .i64)) .nil)))
noncomputable def I_slices_insertionSortOrdered_int : List (Nat × OSh) := [(64, .arr 3 (.int .i64))]
noncomputable def K_slices_insertionSortOrdered_int : RetK := { acts := [], res := [], sh := .nil, obs := [(64, .arr 3 (.int .i64))], pins := [(0, 0, 64)] }
noncomputable def D_slices_insertionSortOrdered_int : FD where
  A := A_slices_insertionSortOrdered_int
  ins := I_slices_insertionSortOrdered_int
  lend := [.arg 0]
  R := List (Int)
  F := fun x => F_slices_insertionSortOrdered_int x.1.2.1 x.1.2.2.1 x.2.1
  emb := fun r => ([], [(64, .arr 3 (.int .i64) r)])
noncomputable def E_slices_insertionSortOrdered_int : Env := envOf [(212, D_cmp_Less_int)]
noncomputable def Z_slices_insertionSortOrdered_int : Nat → Nat → List Nat := fun _ _ => []
noncomputable def O_slices_insertionSortOrdered_int : List (Nat × LD) := [(2, DL_slices_insertionSortOrdered_int_2), (0, DL_slices_insertionSortOrdered_int_0)]
noncomputable def C_slices_insertionSortOrdered_int : Code := (f206.body).getD .skip
noncomputable def T_slices_nextPowerOfTwo (a1_ : Int) : Tr (Int) :=
  .c (Int) (F_math_bits_Len (IntKind.wrap .u64 a1_)) fun r1_ =>
  .g (decide ((0 : Int) ≤ r1_)) <|
  .l (IntKind.wrap .u64 ((1 : Int) * 2 ^ (min (Int.toNat r1_) (IntKind.bits .u64))))
noncomputable def F_slices_nextPowerOfTwo (a1_ : Int) : Option (Int) := (T_slices_nextPowerOfTwo a1_).ev
noncomputable def A_slices_nextPowerOfTwo : Sh := (.cons (.dat (.int .i64)) .nil)
noncomputable def I_slices_nextPowerOfTwo : List (Nat × OSh) := []
noncomputable def K_slices_nextPowerOfTwo : RetK := { acts := [], res := [.tmp 2], sh := (.cons (.dat (.int .u64)) .nil), obs := [], pins := [] }
noncomputable def D_slices_nextPowerOfTwo : FD where
  A := A_slices_nextPowerOfTwo
  ins := I_slices_nextPowerOfTwo
  lend := []
  R := Int
  F := fun x => F_slices_nextPowerOfTwo x.1.1
  emb := fun r => ([.dat (.int .u64) r], [])
noncomputable def E_slices_nextPowerOfTwo : Env := envOf [(186, D_math_bits_Len)]
noncomputable def Z_slices_nextPowerOfTwo : Nat → Nat → List Nat := fun _ _ => []
noncomputable def O_slices_nextPowerOfTwo : List (Nat × LD) := []
noncomputable def C_slices_nextPowerOfTwo : Code := (f238.body).getD .skip
noncomputable def T_slices_xorshift_Next (a1_ : Int) : Tr ((Int) × (Int)) :=
  .g (decide ((0 : Int) ≤ (13 : Int))) <|
  .g (decide ((0 : Int) ≤ (7 : Int))) <|
  .g (decide ((0 : Int) ≤ (17 : Int))) <|
  .l ((IntKind.wrap .u64 (BitVec.toNat ((BitVec.ofInt (IntKind.bits .u64) (IntKind.wrap .u64 (BitVec.toNat ((BitVec.ofInt (IntKind.bits .u64) (IntKind.wrap .u64 (BitVec.toNat ((BitVec.ofInt (IntKind.bits .u64) a1_) ^^^ (BitVec.ofInt (IntKind.bits .u64) (IntKind.wrap .u64 (a1_ * 2 ^ (min (Int.toNat (13 : Int)) (IntKind.bits .u64))))))))) ^^^ (BitVec.ofInt (IntKind.bits .u64) (Int.fdiv (IntKind.wrap .u64 (BitVec.toNat ((BitVec.ofInt (IntKind.bits .u64) a1_) ^^^ (BitVec.ofInt (IntKind.bits .u64) (IntKind.wrap .u64 (a1_ * 2 ^ (min (Int.toNat (13 : Int)) (IntKind.bits .u64)))))))) (2 ^ (min (Int.toNat (7 : Int)) (IntKind.bits .u64))))))))) ^^^ (BitVec.ofInt (IntKind.bits .u64) (IntKind.wrap .u64 ((IntKind.wrap .u64 (BitVec.toNat ((BitVec.ofInt (IntKind.bits .u64) (IntKind.wrap .u64 (BitVec.toNat ((BitVec.ofInt (IntKind.bits .u64) a1_) ^^^ (BitVec.ofInt (IntKind.bits .u64) (IntKind.wrap .u64 (a1_ * 2 ^ (min (Int.toNat (13 : Int)) (IntKind.bits .u64))))))))) ^^^ (BitVec.ofInt (IntKind.bits .u64) (Int.fdiv (IntKind.wrap .u64 (BitVec.toNat ((BitVec.ofInt (IntKind.bits .u64) a1_) ^^^ (BitVec.ofInt (IntKind.bits .u64) (IntKind.wrap .u64 (a1_ * 2 ^ (min (Int.toNat (13 : Int)) (IntKind.bits .u64)))))))) (2 ^ (min (Int.toNat (7 : Int)) (IntKind.bits .u64)))))))) * 2 ^ (min (Int.toNat (17 : Int)) (IntKind.bits .u64)))))))), (IntKind.wrap .u64 (BitVec.toNat ((BitVec.ofInt (IntKind.bits .u64) (IntKind.wrap .u64 (BitVec.toNat ((BitVec.ofInt (IntKind.bits .u64) (IntKind.wrap .u64 (BitVec.toNat ((BitVec.ofInt (IntKind.bits .u64) a1_) ^^^ (BitVec.ofInt (IntKind.bits .u64) (IntKind.wrap .u64 (a1_ * 2 ^ (min (Int.toNat (13 : Int)) (IntKind.bits .u64))))))))) ^^^ (BitVec.ofInt (IntKind.bits .u64) (Int.fdiv (IntKind.wrap .u64 (BitVec.toNat ((BitVec.ofInt (IntKind.bits .u64) a1_) ^^^ (BitVec.ofInt (IntKind.bits .u64) (IntKind.wrap .u64 (a1_ * 2 ^ (min (Int.toNat (13 : Int)) (IntKind.bits .u64)))))))) (2 ^ (min (Int.toNat (7 : Int)) (IntKind.bits .u64))))))))) ^^^ (BitVec.ofInt (IntKind.bits .u64) (IntKind.wrap .u64 ((IntKind.wrap .u64 (BitVec.toNat ((BitVec.ofInt (IntKind.bits .u64) (IntKind.wrap .u64 (BitVec.toNat ((BitVec.ofInt (IntKind.bits .u64) a1_) ^^^ (BitVec.ofInt (IntKind.bits .u64) (IntKind.wrap .u64 (a1_ * 2 ^ (min (Int.toNat (13 : Int)) (IntKind.bits .u64))))))))) ^^^ (BitVec.ofInt (IntKind.bits .u64) (Int.fdiv (IntKind.wrap .u64 (BitVec.toNat ((BitVec.ofInt (IntKind.bits .u64) a1_) ^^^ (BitVec.ofInt (IntKind.bits .u64) (IntKind.wrap .u64 (a1_ * 2 ^ (min (Int.toNat (13 : Int)) (IntKind.bits .u64)))))))) (2 ^ (min (Int.toNat (7 : Int)) (IntKind.bits .u64)))))))) * 2 ^ (min (Int.toNat (17 : Int)) (IntKind.bits .u64)))))))))
noncomputable def F_slices_xorshift_Next (a1_ : Int) : Option ((Int) × (Int)) := (T_slices_xorshift_Next a1_).ev
noncomputable def A_slices_xorshift_Next : Sh := (.cons (.box 64 0) .nil)
noncomputable def I_slices_xorshift_Next : List (Nat × OSh) := [(64, .cells (.cons (.dat (.int .u64)) .nil))]
noncomputable def K_slices_xorshift_Next : RetK := { acts := [], res := [.tmp 2], sh := (.cons (.dat (.int .u64)) .nil), obs := [(64, .cells (.cons (.dat (.int .u64)) .nil))], pins := [(0, 0, 64)] }
noncomputable def D_slices_xorshift_Next : FD where
  A := A_slices_xorshift_Next
  ins := I_slices_xorshift_Next
  lend := [.arg 0]
  R := (Int) × (Int)
  F := fun x => F_slices_xorshift_Next x.2.1.1
  emb := fun r => ([.dat (.int .u64) r.1], [(64, .cells [.dat (.int .u64) r.2])])
noncomputable def E_slices_xorshift_Next : Env := envOf []
noncomputable def Z_slices_xorshift_Next : Nat → Nat → List Nat := fun _ _ => []
noncomputable def O_slices_xorshift_Next : List (Nat × LD) := []
noncomputable def C_slices_xorshift_Next : Code := (f239.body).getD .skip
noncomputable def S_slices_breakPatternsOrdered_int_0 (k : (Int) × ((Int) × (Int))) (v : (Int) × ((List (Int)) × (Int))) : Tr (((Int) × ((List (Int)) × (Int))) ⊕ (List (Int))) :=
  .g (!decide ((4 : Int) = 0)) <|
  .t (decide (v.1 ≤ (IntKind.wrap .i64 ((IntKind.wrap .i64 (k.1 + (IntKind.wrap .i64 ((IntKind.wrap .i64 (Int.tdiv k.2.1 (4 : Int))) * (2 : Int))))) + (1 : Int)))))
    (.c ((Int) × (Int)) (F_slices_xorshift_Next v.2.2) fun r8_ =>
      .t (decide (k.2.1 ≤ (IntKind.wrap .i64 (IntKind.wrap .u64 (BitVec.toNat ((BitVec.ofInt (IntKind.bits .u64) r8_.1) &&& (BitVec.ofInt (IntKind.bits .u64) (IntKind.wrap .u64 (k.2.2 - (1 : Int))))))))))
        (.g (inR (IntKind.wrap .i64 (k.1 + (IntKind.wrap .i64 ((IntKind.wrap .i64 (IntKind.wrap .u64 (BitVec.toNat ((BitVec.ofInt (IntKind.bits .u64) r8_.1) &&& (BitVec.ofInt (IntKind.bits .u64) (IntKind.wrap .u64 (k.2.2 - (1 : Int)))))))) - k.2.1)))) (List.length v.2.1)) <|
          .g (decide ((Int.toNat (IntKind.wrap .i64 (k.1 + (IntKind.wrap .i64 ((IntKind.wrap .i64 (IntKind.wrap .u64 (BitVec.toNat ((BitVec.ofInt (IntKind.bits .u64) r8_.1) &&& (BitVec.ofInt (IntKind.bits .u64) (IntKind.wrap .u64 (k.2.2 - (1 : Int)))))))) - k.2.1))))) < List.length v.2.1)) <|
          .g (inR v.1 (List.length v.2.1)) <|
          .g (decide ((Int.toNat v.1) < List.length v.2.1)) <|
          .g (inR v.1 (List.length v.2.1)) <|
          .g (decide ((Int.toNat v.1) < List.length v.2.1)) <|
          .g (inR (IntKind.wrap .i64 (k.1 + (IntKind.wrap .i64 ((IntKind.wrap .i64 (IntKind.wrap .u64 (BitVec.toNat ((BitVec.ofInt (IntKind.bits .u64) r8_.1) &&& (BitVec.ofInt (IntKind.bits .u64) (IntKind.wrap .u64 (k.2.2 - (1 : Int)))))))) - k.2.1)))) (List.length (List.set v.2.1 (Int.toNat v.1) (List.getD v.2.1 (Int.toNat (IntKind.wrap .i64 (k.1 + (IntKind.wrap .i64 ((IntKind.wrap .i64 (IntKind.wrap .u64 (BitVec.toNat ((BitVec.ofInt (IntKind.bits .u64) r8_.1) &&& (BitVec.ofInt (IntKind.bits .u64) (IntKind.wrap .u64 (k.2.2 - (1 : Int)))))))) - k.2.1))))) (0 : Int))))) <|
          .g (decide ((Int.toNat (IntKind.wrap .i64 (k.1 + (IntKind.wrap .i64 ((IntKind.wrap .i64 (IntKind.wrap .u64 (BitVec.toNat ((BitVec.ofInt (IntKind.bits .u64) r8_.1) &&& (BitVec.ofInt (IntKind.bits .u64) (IntKind.wrap .u64 (k.2.2 - (1 : Int)))))))) - k.2.1))))) < List.length (List.set v.2.1 (Int.toNat v.1) (List.getD v.2.1 (Int.toNat (IntKind.wrap .i64 (k.1 + (IntKind.wrap .i64 ((IntKind.wrap .i64 (IntKind.wrap .u64 (BitVec.toNat ((BitVec.ofInt (IntKind.bits .u64) r8_.1) &&& (BitVec.ofInt (IntKind.bits .u64) (IntKind.wrap .u64 (k.2.2 - (1 : Int)))))))) - k.2.1))))) (0 : Int))))) <|
          .l (.inl ((IntKind.wrap .i64 (v.1 + (1 : Int))), ((List.set (List.set v.2.1 (Int.toNat v.1) (List.getD v.2.1 (Int.toNat (IntKind.wrap .i64 (k.1 + (IntKind.wrap .i64 ((IntKind.wrap .i64 (IntKind.wrap .u64 (BitVec.toNat ((BitVec.ofInt (IntKind.bits .u64) r8_.1) &&& (BitVec.ofInt (IntKind.bits .u64) (IntKind.wrap .u64 (k.2.2 - (1 : Int)))))))) - k.2.1))))) (0 : Int))) (Int.toNat (IntKind.wrap .i64 (k.1 + (IntKind.wrap .i64 ((IntKind.wrap .i64 (IntKind.wrap .u64 (BitVec.toNat ((BitVec.ofInt (IntKind.bits .u64) r8_.1) &&& (BitVec.ofInt (IntKind.bits .u64) (IntKind.wrap .u64 (k.2.2 - (1 : Int)))))))) - k.2.1))))) (List.getD v.2.1 (Int.toNat v.1) (0 : Int))), r8_.2))))
        (.g (inR (IntKind.wrap .i64 (k.1 + (IntKind.wrap .i64 (IntKind.wrap .u64 (BitVec.toNat ((BitVec.ofInt (IntKind.bits .u64) r8_.1) &&& (BitVec.ofInt (IntKind.bits .u64) (IntKind.wrap .u64 (k.2.2 - (1 : Int)))))))))) (List.length v.2.1)) <|
          .g (decide ((Int.toNat (IntKind.wrap .i64 (k.1 + (IntKind.wrap .i64 (IntKind.wrap .u64 (BitVec.toNat ((BitVec.ofInt (IntKind.bits .u64) r8_.1) &&& (BitVec.ofInt (IntKind.bits .u64) (IntKind.wrap .u64 (k.2.2 - (1 : Int))))))))))) < List.length v.2.1)) <|
          .g (inR v.1 (List.length v.2.1)) <|
          .g (decide ((Int.toNat v.1) < List.length v.2.1)) <|
          .g (inR v.1 (List.length v.2.1)) <|
          .g (decide ((Int.toNat v.1) < List.length v.2.1)) <|
          .g (inR (IntKind.wrap .i64 (k.1 + (IntKind.wrap .i64 (IntKind.wrap .u64 (BitVec.toNat ((BitVec.ofInt (IntKind.bits .u64) r8_.1) &&& (BitVec.ofInt (IntKind.bits .u64) (IntKind.wrap .u64 (k.2.2 - (1 : Int)))))))))) (List.length (List.set v.2.1 (Int.toNat v.1) (List.getD v.2.1 (Int.toNat (IntKind.wrap .i64 (k.1 + (IntKind.wrap .i64 (IntKind.wrap .u64 (BitVec.toNat ((BitVec.ofInt (IntKind.bits .u64) r8_.1) &&& (BitVec.ofInt (IntKind.bits .u64) (IntKind.wrap .u64 (k.2.2 - (1 : Int))))))))))) (0 : Int))))) <|
          .g (decide ((Int.toNat (IntKind.wrap .i64 (k.1 + (IntKind.wrap .i64 (IntKind.wrap .u64 (BitVec.toNat ((BitVec.ofInt (IntKind.bits .u64) r8_.1) &&& (BitVec.ofInt (IntKind.bits .u64) (IntKind.wrap .u64 (k.2.2 - (1 : Int))))))))))) < List.length (List.set v.2.1 (Int.toNat v.1) (List.getD v.2.1 (Int.toNat (IntKind.wrap .i64 (k.1 + (IntKind.wrap .i64 (IntKind.wrap .u64 (BitVec.toNat ((BitVec.ofInt (IntKind.bits .u64) r8_.1) &&& (BitVec.ofInt (IntKind.bits .u64) (IntKind.wrap .u64 (k.2.2 - (1 : Int))))))))))) (0 : Int))))) <|
          .l (.inl ((IntKind.wrap .i64 (v.1 + (1 : Int))), ((List.set (List.set v.2.1 (Int.toNat v.1) (List.getD v.2.1 (Int.toNat (IntKind.wrap .i64 (k.1 + (IntKind.wrap .i64 (IntKind.wrap .u64 (BitVec.toNat ((BitVec.ofInt (IntKind.bits .u64) r8_.1) &&& (BitVec.ofInt (IntKind.bits .u64) (IntKind.wrap .u64 (k.2.2 - (1 : Int))))))))))) (0 : Int))) (Int.toNat (IntKind.wrap .i64 (k.1 + (IntKind.wrap .i64 (IntKind.wrap .u64 (BitVec.toNat ((BitVec.ofInt (IntKind.bits .u64) r8_.1) &&& (BitVec.ofInt (IntKind.bits .u64) (IntKind.wrap .u64 (k.2.2 - (1 : Int))))))))))) (List.getD v.2.1 (Int.toNat v.1) (0 : Int))), r8_.2)))))
    (.l (.inr v.2.1))
noncomputable def L_slices_breakPatternsOrdered_int_0 (k : (Int) × ((Int) × (Int))) (v : (Int) × ((List (Int)) × (Int))) : Option (List (Int)) := iter (fun v => (S_slices_breakPatternsOrdered_int_0 k v).ev) v
noncomputable def DL_slices_breakPatternsOrdered_int_0 : LD where
  head := { acts := [], S := { slots := [0, 1, 6, 7, 8, 9], sh := (.cons (.arr 64) (.cons (.dat (.int .i64)) (.cons (.dat (.int .i64)) (.cons (.box 7 0) (.cons (.dat (.int .u64)) (.cons (.dat (.int .i64)) .nil)))))), obs := [(64, .arr 3 (.int .i64)), (7, .cells (.cons (.dat (.int .u64)) .nil))] } }
  exits := [(0, { acts := [], S := { slots := [0], sh := (.cons (.arr 64) .nil), obs := [(64, .arr 3 (.int .i64))] } })]
  rets := { acts := [], S := { slots := [], sh := .nil, obs := [] } }
  K := (Int) × ((Int) × (Int))
  V := (Int) × ((List (Int)) × (Int))
  R := List (Int)
  join := fun k v => (((), (k.1, (k.2.1, ((), (k.2.2, (v.1, ())))))), (v.2.1, ((v.2.2, ()), ())))
  sk := fun t => (t.1.2.1, (t.1.2.2.1, t.1.2.2.2.2.1))
  sv := fun t => (t.1.2.2.2.2.2.1, (t.2.1, t.2.2.1.1))
  step := S_slices_breakPatternsOrdered_int_0
  leaf := fun _ r => .l (.exit 0 (mkSt ({ slots := [0], sh := (.cons (.arr 64) .nil), obs := [(64, .arr 3 (.int .i64))] }) (((), ()), (r, ()))))
noncomputable def T_slices_breakPatternsOrdered_int (a2_ : Int) (a3_ : Int) (a1_ : List (Int)) : Tr (List (Int)) :=
  .t (decide ((8 : Int) ≤ (IntKind.wrap .i64 (a3_ - a2_))))
    (.c (Int) (F_slices_nextPowerOfTwo (IntKind.wrap .i64 (a3_ - a2_))) fun r1_ =>
      .g (!decide ((4 : Int) = 0)) <|
      .c (List (Int)) (L_slices_breakPatternsOrdered_int_0 (a2_, ((IntKind.wrap .i64 (a3_ - a2_)), r1_)) ((IntKind.wrap .i64 ((IntKind.wrap .i64 (a2_ + (IntKind.wrap .i64 ((IntKind.wrap .i64 (Int.tdiv (IntKind.wrap .i64 (a3_ - a2_)) (4 : Int))) * (2 : Int))))) - (1 : Int))), (a1_, (IntKind.wrap .u64 (IntKind.wrap .i64 (a3_ - a2_)))))) fun r10_ =>
      .l r10_)
    (.l a1_)
noncomputable def F_slices_breakPatternsOrdered_int (a2_ : Int) (a3_ : Int) (a1_ : List (Int)) : Option (List (Int)) := (T_slices_breakPatternsOrdered_int a2_ a3_ a1_).ev
noncomputable def A_slices_breakPatternsOrdered_int : Sh := (.cons (.arr 64) (.cons (.dat (.int .i64)) (.cons (.dat (.int .i64)) .nil)))
noncomputable def I_slices_breakPatternsOrdered_int : List (Nat × OSh) := [(64, .arr 3 (.int .i64))]
noncomputable def K_slices_breakPatternsOrdered_int : RetK := { acts := [], res := [], sh := .nil, obs := [(64, .arr 3 (.int .i64))], pins := [(0, 0, 64)] }
noncomputable def D_slices_breakPatternsOrdered_int : FD where
  A := A_slices_breakPatternsOrdered_int
  ins := I_slices_breakPatternsOrdered_int
  lend := [.arg 0]
  R := List (Int)
  F := fun x => F_slices_breakPatternsOrdered_int x.1.2.1 x.1.2.2.1 x.2.1
  emb := fun r => ([], [(64, .arr 3 (.int .i64) r)])
noncomputable def E_slices_breakPatternsOrdered_int : Env := envOf [(238, D_slices_nextPowerOfTwo), (239, D_slices_xorshift_Next)]
noncomputable def Z_slices_breakPatternsOrdered_int : Nat → Nat → List Nat := fun _ _ => []
noncomputable def O_slices_breakPatternsOrdered_int : List (Nat × LD) := [(0, DL_slices_breakPatternsOrdered_int_0)]
noncomputable def C_slices_breakPatternsOrdered_int : Code := (f208.body).getD .skip
noncomputable def T_slices_order2Ordered_int (a1_ : List (Int)) (a2_ : Int) (a3_ : Int) (a4_ : Int) : Tr ((Int) × ((Int) × (Int))) :=
  .g (inR a3_ (List.length a1_)) <|
  .g (inR a2_ (List.length a1_)) <|
  .c (Bool) (F_cmp_Less_int (List.getD a1_ (Int.toNat a3_) (0 : Int)) (List.getD a1_ (Int.toNat a2_) (0 : Int))) fun r1_ =>
  .t r1_
    (.l (a3_, (a2_, (IntKind.wrap .i64 (a4_ + (1 : Int))))))
    (.l (a2_, (a3_, a4_)))
noncomputable def F_slices_order2Ordered_int (a1_ : List (Int)) (a2_ : Int) (a3_ : Int) (a4_ : Int) : Option ((Int) × ((Int) × (Int))) := (T_slices_order2Ordered_int a1_ a2_ a3_ a4_).ev
noncomputable def A_slices_order2Ordered_int : Sh := (.cons (.dat (.slice (.int .i64))) (.cons (.dat (.int .i64)) (.cons (.dat (.int .i64)) (.cons (.box 64 0) .nil))))
noncomputable def I_slices_order2Ordered_int : List (Nat × OSh) := [(64, .cells (.cons (.dat (.int .i64)) .nil))]
noncomputable def K_slices_order2Ordered_int : RetK := { acts := [], res := [.tmp 8, .tmp 9], sh := (.cons (.dat (.int .i64)) (.cons (.dat (.int .i64)) .nil)), obs := [(64, .cells (.cons (.dat (.int .i64)) .nil))], pins := [(3, 0, 64)] }
noncomputable def D_slices_order2Ordered_int : FD where
  A := A_slices_order2Ordered_int
  ins := I_slices_order2Ordered_int
  lend := [.arg 3]
  R := (Int) × ((Int) × (Int))
  F := fun x => F_slices_order2Ordered_int x.1.1 x.1.2.1 x.1.2.2.1 x.2.1.1
  emb := fun r => ([.dat (.int .i64) r.1, .dat (.int .i64) r.2.1], [(64, .cells [.dat (.int .i64) r.2.2])])
noncomputable def E_slices_order2Ordered_int : Env := envOf [(212, D_cmp_Less_int)]
noncomputable def Z_slices_order2Ordered_int : Nat → Nat → List Nat := fun _ _ => []
noncomputable def O_slices_order2Ordered_int : List (Nat × LD) := []
noncomputable def C_slices_order2Ordered_int : Code := (f255.body).getD .skip
noncomputable def T_slices_medianOrdered_int (a1_ : List (Int)) (a2_ : Int) (a3_ : Int) (a4_ : Int) (a5_ : Int) : Tr ((Int) × (Int)) :=
  .c ((Int) × ((Int) × (Int))) (F_slices_order2Ordered_int a1_ a2_ a3_ a5_) fun r1_ =>
  .c ((Int) × ((Int) × (Int))) (F_slices_order2Ordered_int a1_ r1_.2.1 a4_ r1_.2.2) fun r2_ =>
  .c ((Int) × ((Int) × (Int))) (F_slices_order2Ordered_int a1_ r1_.1 r2_.1 r2_.2.2) fun r3_ =>
  .l (r3_.2.1, r3_.2.2)
noncomputable def F_slices_medianOrdered_int (a1_ : List (Int)) (a2_ : Int) (a3_ : Int) (a4_ : Int) (a5_ : Int) : Option ((Int) × (Int)) := (T_slices_medianOrdered_int a1_ a2_ a3_ a4_ a5_).ev
noncomputable def A_slices_medianOrdered_int : Sh := (.cons (.dat (.slice (.int .i64))) (.cons (.dat (.int .i64)) (.cons (.dat (.int .i64)) (.cons (.dat (.int .i64)) (.cons (.box 64 0) .nil)))))
noncomputable def I_slices_medianOrdered_int : List (Nat × OSh) := [(64, .cells (.cons (.dat (.int .i64)) .nil))]
noncomputable def K_slices_medianOrdered_int : RetK := { acts := [], res := [.tmp 10], sh := (.cons (.dat (.int .i64)) .nil), obs := [(64, .cells (.cons (.dat (.int .i64)) .nil))], pins := [(4, 0, 64)] }
noncomputable def D_slices_medianOrdered_int : FD where
  A := A_slices_medianOrdered_int
  ins := I_slices_medianOrdered_int
  lend := [.arg 4]
  R := (Int) × (Int)
  F := fun x => F_slices_medianOrdered_int x.1.1 x.1.2.1 x.1.2.2.1 x.1.2.2.2.1 x.2.1.1
  emb := fun r => ([.dat (.int .i64) r.1], [(64, .cells [.dat (.int .i64) r.2])])
noncomputable def E_slices_medianOrdered_int : Env := envOf [(255, D_slices_order2Ordered_int)]
noncomputable def Z_slices_medianOrdered_int : Nat → Nat → List Nat := fun _ _ => []
noncomputable def O_slices_medianOrdered_int : List (Nat × LD) := []
noncomputable def C_slices_medianOrdered_int : Code := (f241.body).getD .skip
noncomputable def T_slices_medianAdjacentOrdered_int (a1_ : List (Int)) (a2_ : Int) (a3_ : Int) : Tr ((Int) × (Int)) :=
  .c ((Int) × (Int)) (F_slices_medianOrdered_int a1_ (IntKind.wrap .i64 (a2_ - (1 : Int))) a2_ (IntKind.wrap .i64 (a2_ + (1 : Int))) a3_) fun r1_ =>
  .l (r1_.1, r1_.2)
noncomputable def F_slices_medianAdjacentOrdered_int (a1_ : List (Int)) (a2_ : Int) (a3_ : Int) : Option ((Int) × (Int)) := (T_slices_medianAdjacentOrdered_int a1_ a2_ a3_).ev
noncomputable def A_slices_medianAdjacentOrdered_int : Sh := (.cons (.dat (.slice (.int .i64))) (.cons (.dat (.int .i64)) (.cons (.box 64 0) .nil)))
noncomputable def I_slices_medianAdjacentOrdered_int : List (Nat × OSh) := [(64, .cells (.cons (.dat (.int .i64)) .nil))]
noncomputable def K_slices_medianAdjacentOrdered_int : RetK := { acts := [], res := [.tmp 6], sh := (.cons (.dat (.int .i64)) .nil), obs := [(64, .cells (.cons (.dat (.int .i64)) .nil))], pins := [(2, 0, 64)] }
noncomputable def D_slices_medianAdjacentOrdered_int : FD where
  A := A_slices_medianAdjacentOrdered_int
  ins := I_slices_medianAdjacentOrdered_int
  lend := [.arg 2]
  R := (Int) × (Int)
  F := fun x => F_slices_medianAdjacentOrdered_int x.1.1 x.1.2.1 x.2.1.1
  emb := fun r => ([.dat (.int .i64) r.1], [(64, .cells [.dat (.int .i64) r.2])])
noncomputable def E_slices_medianAdjacentOrdered_int : Env := envOf [(241, D_slices_medianOrdered_int)]
noncomputable def Z_slices_medianAdjacentOrdered_int : Nat → Nat → List Nat := fun _ _ => []
noncomputable def O_slices_medianAdjacentOrdered_int : List (Nat × LD) := []
noncomputable def C_slices_medianAdjacentOrdered_int : Code := (f240.body).getD .skip
noncomputable def T_slices_choosePivotOrdered_int (a1_ : List (Int)) (a2_ : Int) (a3_ : Int) : Tr ((Int) × (Int)) :=
  .g (!decide ((4 : Int) = 0)) <|
  .g (!decide ((4 : Int) = 0)) <|
  .g (!decide ((4 : Int) = 0)) <|
  .t (decide ((8 : Int) ≤ (IntKind.wrap .i64 (a3_ - a2_))))
    (.t (decide ((50 : Int) ≤ (IntKind.wrap .i64 (a3_ - a2_))))
        (.c ((Int) × (Int)) (F_slices_medianAdjacentOrdered_int a1_ (IntKind.wrap .i64 (a2_ + (IntKind.wrap .i64 ((IntKind.wrap .i64 (Int.tdiv (IntKind.wrap .i64 (a3_ - a2_)) (4 : Int))) * (1 : Int))))) (0 : Int)) fun r1_ =>
          .c ((Int) × (Int)) (F_slices_medianAdjacentOrdered_int a1_ (IntKind.wrap .i64 (a2_ + (IntKind.wrap .i64 ((IntKind.wrap .i64 (Int.tdiv (IntKind.wrap .i64 (a3_ - a2_)) (4 : Int))) * (2 : Int))))) r1_.2) fun r2_ =>
          .c ((Int) × (Int)) (F_slices_medianAdjacentOrdered_int a1_ (IntKind.wrap .i64 (a2_ + (IntKind.wrap .i64 ((IntKind.wrap .i64 (Int.tdiv (IntKind.wrap .i64 (a3_ - a2_)) (4 : Int))) * (3 : Int))))) r2_.2) fun r3_ =>
          .c ((Int) × (Int)) (F_slices_medianOrdered_int a1_ r1_.1 r2_.1 r3_.1 r3_.2) fun r4_ =>
          .t (r4_.2 == (0 : Int))
            (.l (r4_.1, (1 : Int)))
            (.t (r4_.2 == (12 : Int))
                (.l (r4_.1, (2 : Int)))
                (.l (r4_.1, (0 : Int)))))
        (.c ((Int) × (Int)) (F_slices_medianOrdered_int a1_ (IntKind.wrap .i64 (a2_ + (IntKind.wrap .i64 ((IntKind.wrap .i64 (Int.tdiv (IntKind.wrap .i64 (a3_ - a2_)) (4 : Int))) * (1 : Int))))) (IntKind.wrap .i64 (a2_ + (IntKind.wrap .i64 ((IntKind.wrap .i64 (Int.tdiv (IntKind.wrap .i64 (a3_ - a2_)) (4 : Int))) * (2 : Int))))) (IntKind.wrap .i64 (a2_ + (IntKind.wrap .i64 ((IntKind.wrap .i64 (Int.tdiv (IntKind.wrap .i64 (a3_ - a2_)) (4 : Int))) * (3 : Int))))) (0 : Int)) fun r5_ =>
          .t (r5_.2 == (0 : Int))
            (.l (r5_.1, (1 : Int)))
            (.t (r5_.2 == (12 : Int))
                (.l (r5_.1, (2 : Int)))
                (.l (r5_.1, (0 : Int))))))
    (.t ((0 : Int) == (0 : Int))
        (.l ((IntKind.wrap .i64 (a2_ + (IntKind.wrap .i64 ((IntKind.wrap .i64 (Int.tdiv (IntKind.wrap .i64 (a3_ - a2_)) (4 : Int))) * (2 : Int))))), (1 : Int)))
        (.t ((0 : Int) == (12 : Int))
            (.l ((IntKind.wrap .i64 (a2_ + (IntKind.wrap .i64 ((IntKind.wrap .i64 (Int.tdiv (IntKind.wrap .i64 (a3_ - a2_)) (4 : Int))) * (2 : Int))))), (2 : Int)))
            (.l ((IntKind.wrap .i64 (a2_ + (IntKind.wrap .i64 ((IntKind.wrap .i64 (Int.tdiv (IntKind.wrap .i64 (a3_ - a2_)) (4 : Int))) * (2 : Int))))), (0 : Int)))))
noncomputable def F_slices_choosePivotOrdered_int (a1_ : List (Int)) (a2_ : Int) (a3_ : Int) : Option ((Int) × (Int)) := (T_slices_choosePivotOrdered_int a1_ a2_ a3_).ev
noncomputable def A_slices_choosePivotOrdered_int : Sh := (.cons (.dat (.slice (.int .i64))) (.cons (.dat (.int .i64)) (.cons (.dat (.int .i64)) .nil)))
noncomputable def I_slices_choosePivotOrdered_int : List (Nat × OSh) := []
noncomputable def K_slices_choosePivotOrdered_int : RetK := { acts := [], res := [.tmp 6, .tmp 7], sh := (.cons (.dat (.int .i64)) (.cons (.dat (.int .i64)) .nil)), obs := [], pins := [] }
noncomputable def D_slices_choosePivotOrdered_int : FD where
  A := A_slices_choosePivotOrdered_int
  ins := I_slices_choosePivotOrdered_int
  lend := []
  R := (Int) × (Int)
  F := fun x => F_slices_choosePivotOrdered_int x.1.1 x.1.2.1 x.1.2.2.1
  emb := fun r => ([.dat (.int .i64) r.1, .dat (.int .i64) r.2], [])
noncomputable def E_slices_choosePivotOrdered_int : Env := envOf [(240, D_slices_medianAdjacentOrdered_int), (241, D_slices_medianOrdered_int)]
noncomputable def Z_slices_choosePivotOrdered_int : Nat → Nat → List Nat := fun _ _ => []
noncomputable def O_slices_choosePivotOrdered_int : List (Nat × LD) := []
noncomputable def C_slices_choosePivotOrdered_int : Code := (f209.body).getD .skip
noncomputable def S_slices_partitionOrdered_int_0 (k : (Int) × ((Int) × (List (Int)))) (v : Int) : Tr ((Int) ⊕ (Int)) :=
  .t (decide (v ≤ k.2.1))
    (.g (inR v (List.length k.2.2)) <|
      .g (decide ((Int.toNat v) < List.length k.2.2)) <|
      .g (inR k.1 (List.length k.2.2)) <|
      .g (decide ((Int.toNat k.1) < List.length k.2.2)) <|
      .c (Bool) (F_cmp_Less_int (List.getD k.2.2 (Int.toNat v) (0 : Int)) (List.getD k.2.2 (Int.toNat k.1) (0 : Int))) fun r5_ =>
      .t r5_
        (.l (.inl (IntKind.wrap .i64 (v + (1 : Int)))))
        (.l (.inr v)))
    (.l (.inr v))
noncomputable def L_slices_partitionOrdered_int_0 (k : (Int) × ((Int) × (List (Int)))) (v : Int) : Option (Int) := iter (fun v => (S_slices_partitionOrdered_int_0 k v).ev) v
noncomputable def DL_slices_partitionOrdered_int_0 : LD where
  head := { acts := [], S := { slots := [0, 1, 10, 11], sh := (.cons (.arr 64) (.cons (.dat (.int .i64)) (.cons (.dat (.int .i64)) (.cons (.dat (.int .i64)) .nil)))), obs := [(64, .arr 3 (.int .i64))] } }
  exits := [(0, { acts := [], S := { slots := [0, 1, 10, 11], sh := (.cons (.arr 64) (.cons (.dat (.int .i64)) (.cons (.dat (.int .i64)) (.cons (.dat (.int .i64)) .nil)))), obs := [(64, .arr 3 (.int .i64))] } })]
  rets := { acts := [], S := { slots := [], sh := .nil, obs := [] } }
  K := (Int) × ((Int) × (List (Int)))
  V := Int
  R := Int
  join := fun k v => (((), (k.1, (v, (k.2.1, ())))), (k.2.2, ()))
  sk := fun t => (t.1.2.1, (t.1.2.2.2.1, t.2.1))
  sv := fun t => t.1.2.2.1
  step := S_slices_partitionOrdered_int_0
  leaf := fun k r => .l (.exit 0 (mkSt ({ slots := [0, 1, 10, 11], sh := (.cons (.arr 64) (.cons (.dat (.int .i64)) (.cons (.dat (.int .i64)) (.cons (.dat (.int .i64)) .nil)))), obs := [(64, .arr 3 (.int .i64))] }) (((), (k.1, (r, (k.2.1, ())))), (k.2.2, ()))))
noncomputable def S_slices_partitionOrdered_int_2 (k : (Int) × ((Int) × (List (Int)))) (v : Int) : Tr ((Int) ⊕ (Int)) :=
  .t (decide (k.2.1 ≤ v))
    (.g (inR v (List.length k.2.2)) <|
      .g (decide ((Int.toNat v) < List.length k.2.2)) <|
      .g (inR k.1 (List.length k.2.2)) <|
      .g (decide ((Int.toNat k.1) < List.length k.2.2)) <|
      .c (Bool) (F_cmp_Less_int (List.getD k.2.2 (Int.toNat v) (0 : Int)) (List.getD k.2.2 (Int.toNat k.1) (0 : Int))) fun r15_ =>
      .t (!r15_)
        (.l (.inl (IntKind.wrap .i64 (v - (1 : Int)))))
        (.l (.inr v)))
    (.l (.inr v))
noncomputable def L_slices_partitionOrdered_int_2 (k : (Int) × ((Int) × (List (Int)))) (v : Int) : Option (Int) := iter (fun v => (S_slices_partitionOrdered_int_2 k v).ev) v
noncomputable def DL_slices_partitionOrdered_int_2 : LD where
  head := { acts := [], S := { slots := [0, 1, 10, 11], sh := (.cons (.arr 64) (.cons (.dat (.int .i64)) (.cons (.dat (.int .i64)) (.cons (.dat (.int .i64)) .nil)))), obs := [(64, .arr 3 (.int .i64))] } }
  exits := [(2, { acts := [], S := { slots := [0, 1, 10, 11], sh := (.cons (.arr 64) (.cons (.dat (.int .i64)) (.cons (.dat (.int .i64)) (.cons (.dat (.int .i64)) .nil)))), obs := [(64, .arr 3 (.int .i64))] } })]
  rets := { acts := [], S := { slots := [], sh := .nil, obs := [] } }
  K := (Int) × ((Int) × (List (Int)))
  V := Int
  R := Int
  join := fun k v => (((), (k.1, (k.2.1, (v, ())))), (k.2.2, ()))
  sk := fun t => (t.1.2.1, (t.1.2.2.1, t.2.1))
  sv := fun t => t.1.2.2.2.1
  step := S_slices_partitionOrdered_int_2
  leaf := fun k r => .l (.exit 2 (mkSt ({ slots := [0, 1, 10, 11], sh := (.cons (.arr 64) (.cons (.dat (.int .i64)) (.cons (.dat (.int .i64)) (.cons (.dat (.int .i64)) .nil)))), obs := [(64, .arr 3 (.int .i64))] }) (((), (k.1, (k.2.1, (r, ())))), (k.2.2, ()))))
noncomputable def S_slices_partitionOrdered_int_6 (k : (Int) × ((Int) × (List (Int)))) (v : Int) : Tr ((Int) ⊕ (Int)) :=
  .t (decide (v ≤ k.2.1))
    (.g (inR v (List.length k.2.2)) <|
      .g (decide ((Int.toNat v) < List.length k.2.2)) <|
      .g (inR k.1 (List.length k.2.2)) <|
      .g (decide ((Int.toNat k.1) < List.length k.2.2)) <|
      .c (Bool) (F_cmp_Less_int (List.getD k.2.2 (Int.toNat v) (0 : Int)) (List.getD k.2.2 (Int.toNat k.1) (0 : Int))) fun r29_ =>
      .t r29_
        (.l (.inl (IntKind.wrap .i64 (v + (1 : Int)))))
        (.l (.inr v)))
    (.l (.inr v))
noncomputable def L_slices_partitionOrdered_int_6 (k : (Int) × ((Int) × (List (Int)))) (v : Int) : Option (Int) := iter (fun v => (S_slices_partitionOrdered_int_6 k v).ev) v
noncomputable def DL_slices_partitionOrdered_int_6 : LD where
  head := { acts := [], S := { slots := [0, 1, 10, 11], sh := (.cons (.arr 64) (.cons (.dat (.int .i64)) (.cons (.dat (.int .i64)) (.cons (.dat (.int .i64)) .nil)))), obs := [(64, .arr 3 (.int .i64))] } }
  exits := [(6, { acts := [], S := { slots := [0, 1, 10, 11], sh := (.cons (.arr 64) (.cons (.dat (.int .i64)) (.cons (.dat (.int .i64)) (.cons (.dat (.int .i64)) .nil)))), obs := [(64, .arr 3 (.int .i64))] } })]
  rets := { acts := [], S := { slots := [], sh := .nil, obs := [] } }
  K := (Int) × ((Int) × (List (Int)))
  V := Int
  R := Int
  join := fun k v => (((), (k.1, (v, (k.2.1, ())))), (k.2.2, ()))
  sk := fun t => (t.1.2.1, (t.1.2.2.2.1, t.2.1))
  sv := fun t => t.1.2.2.1
  step := S_slices_partitionOrdered_int_6
  leaf := fun k r => .l (.exit 6 (mkSt ({ slots := [0, 1, 10, 11], sh := (.cons (.arr 64) (.cons (.dat (.int .i64)) (.cons (.dat (.int .i64)) (.cons (.dat (.int .i64)) .nil)))), obs := [(64, .arr 3 (.int .i64))] }) (((), (k.1, (r, (k.2.1, ())))), (k.2.2, ()))))
noncomputable def S_slices_partitionOrdered_int_8 (k : (Int) × ((Int) × (List (Int)))) (v : Int) : Tr ((Int) ⊕ (Int)) :=
  .t (decide (k.2.1 ≤ v))
    (.g (inR v (List.length k.2.2)) <|
      .g (decide ((Int.toNat v) < List.length k.2.2)) <|
      .g (inR k.1 (List.length k.2.2)) <|
      .g (decide ((Int.toNat k.1) < List.length k.2.2)) <|
      .c (Bool) (F_cmp_Less_int (List.getD k.2.2 (Int.toNat v) (0 : Int)) (List.getD k.2.2 (Int.toNat k.1) (0 : Int))) fun r39_ =>
      .t (!r39_)
        (.l (.inl (IntKind.wrap .i64 (v - (1 : Int)))))
        (.l (.inr v)))
    (.l (.inr v))
noncomputable def L_slices_partitionOrdered_int_8 (k : (Int) × ((Int) × (List (Int)))) (v : Int) : Option (Int) := iter (fun v => (S_slices_partitionOrdered_int_8 k v).ev) v
noncomputable def DL_slices_partitionOrdered_int_8 : LD where
  head := { acts := [], S := { slots := [0, 1, 10, 11], sh := (.cons (.arr 64) (.cons (.dat (.int .i64)) (.cons (.dat (.int .i64)) (.cons (.dat (.int .i64)) .nil)))), obs := [(64, .arr 3 (.int .i64))] } }
  exits := [(8, { acts := [], S := { slots := [0, 1, 10, 11], sh := (.cons (.arr 64) (.cons (.dat (.int .i64)) (.cons (.dat (.int .i64)) (.cons (.dat (.int .i64)) .nil)))), obs := [(64, .arr 3 (.int .i64))] } })]
  rets := { acts := [], S := { slots := [], sh := .nil, obs := [] } }
  K := (Int) × ((Int) × (List (Int)))
  V := Int
  R := Int
  join := fun k v => (((), (k.1, (k.2.1, (v, ())))), (k.2.2, ()))
  sk := fun t => (t.1.2.1, (t.1.2.2.1, t.2.1))
  sv := fun t => t.1.2.2.2.1
  step := S_slices_partitionOrdered_int_8
  leaf := fun k r => .l (.exit 8 (mkSt ({ slots := [0, 1, 10, 11], sh := (.cons (.arr 64) (.cons (.dat (.int .i64)) (.cons (.dat (.int .i64)) (.cons (.dat (.int .i64)) .nil)))), obs := [(64, .arr 3 (.int .i64))] }) (((), (k.1, (k.2.1, (r, ())))), (k.2.2, ()))))
noncomputable def S_slices_partitionOrdered_int_4 (k : Int) (v : (Int) × ((Int) × (List (Int)))) : Tr (((Int) × ((Int) × (List (Int)))) ⊕ ((Int) × (List (Int)))) :=
  .c (Int) (L_slices_partitionOrdered_int_6 (k, (v.2.1, v.2.2)) v.1) fun r34_ =>
  .c (Int) (L_slices_partitionOrdered_int_8 (k, (r34_, v.2.2)) v.2.1) fun r44_ =>
  .t (decide (r44_ < r34_))
    (.l (.inr (r44_, v.2.2)))
    (.g (inR r44_ (List.length v.2.2)) <|
      .g (decide ((Int.toNat r44_) < List.length v.2.2)) <|
      .g (inR r34_ (List.length v.2.2)) <|
      .g (decide ((Int.toNat r34_) < List.length v.2.2)) <|
      .g (inR r34_ (List.length v.2.2)) <|
      .g (decide ((Int.toNat r34_) < List.length v.2.2)) <|
      .g (inR r44_ (List.length (List.set v.2.2 (Int.toNat r34_) (List.getD v.2.2 (Int.toNat r44_) (0 : Int))))) <|
      .g (decide ((Int.toNat r44_) < List.length (List.set v.2.2 (Int.toNat r34_) (List.getD v.2.2 (Int.toNat r44_) (0 : Int))))) <|
      .l (.inl ((IntKind.wrap .i64 (r34_ + (1 : Int))), ((IntKind.wrap .i64 (r44_ - (1 : Int))), (List.set (List.set v.2.2 (Int.toNat r34_) (List.getD v.2.2 (Int.toNat r44_) (0 : Int))) (Int.toNat r44_) (List.getD v.2.2 (Int.toNat r34_) (0 : Int)))))))
noncomputable def L_slices_partitionOrdered_int_4 (k : Int) (v : (Int) × ((Int) × (List (Int)))) : Option ((Int) × (List (Int))) := iter (fun v => (S_slices_partitionOrdered_int_4 k v).ev) v
noncomputable def DL_slices_partitionOrdered_int_4 : LD where
  head := { acts := [], S := { slots := [0, 1, 10, 11], sh := (.cons (.arr 64) (.cons (.dat (.int .i64)) (.cons (.dat (.int .i64)) (.cons (.dat (.int .i64)) .nil)))), obs := [(64, .arr 3 (.int .i64))] } }
  exits := [(4, { acts := [], S := { slots := [0, 1, 11], sh := (.cons (.arr 64) (.cons (.dat (.int .i64)) (.cons (.dat (.int .i64)) .nil))), obs := [(64, .arr 3 (.int .i64))] } })]
  rets := { acts := [], S := { slots := [], sh := .nil, obs := [] } }
  K := Int
  V := (Int) × ((Int) × (List (Int)))
  R := (Int) × (List (Int))
  join := fun k v => (((), (k, (v.1, (v.2.1, ())))), (v.2.2, ()))
  sk := fun t => t.1.2.1
  sv := fun t => (t.1.2.2.1, (t.1.2.2.2.1, t.2.1))
  step := S_slices_partitionOrdered_int_4
  leaf := fun k r => .l (.exit 4 (mkSt ({ slots := [0, 1, 11], sh := (.cons (.arr 64) (.cons (.dat (.int .i64)) (.cons (.dat (.int .i64)) .nil))), obs := [(64, .arr 3 (.int .i64))] }) (((), (k, (r.1, ()))), (r.2, ()))))
noncomputable def T_slices_partitionOrdered_int (a2_ : Int) (a3_ : Int) (a4_ : Int) (a1_ : List (Int)) : Tr ((Int) × ((Bool) × (List (Int)))) :=
  .g (inR a4_ (List.length a1_)) <|
  .g (decide ((Int.toNat a4_) < List.length a1_)) <|
  .g (inR a2_ (List.length a1_)) <|
  .g (decide ((Int.toNat a2_) < List.length a1_)) <|
  .g (inR a2_ (List.length a1_)) <|
  .g (decide ((Int.toNat a2_) < List.length a1_)) <|
  .g (inR a4_ (List.length (List.set a1_ (Int.toNat a2_) (List.getD a1_ (Int.toNat a4_) (0 : Int))))) <|
  .g (decide ((Int.toNat a4_) < List.length (List.set a1_ (Int.toNat a2_) (List.getD a1_ (Int.toNat a4_) (0 : Int))))) <|
  .c (Int) (L_slices_partitionOrdered_int_0 (a2_, ((IntKind.wrap .i64 (a3_ - (1 : Int))), (List.set (List.set a1_ (Int.toNat a2_) (List.getD a1_ (Int.toNat a4_) (0 : Int))) (Int.toNat a4_) (List.getD a1_ (Int.toNat a2_) (0 : Int))))) (IntKind.wrap .i64 (a2_ + (1 : Int)))) fun r10_ =>
  .c (Int) (L_slices_partitionOrdered_int_2 (a2_, (r10_, (List.set (List.set a1_ (Int.toNat a2_) (List.getD a1_ (Int.toNat a4_) (0 : Int))) (Int.toNat a4_) (List.getD a1_ (Int.toNat a2_) (0 : Int))))) (IntKind.wrap .i64 (a3_ - (1 : Int)))) fun r20_ =>
  .t (decide (r20_ < r10_))
    (.g (inR a2_ (List.length (List.set (List.set a1_ (Int.toNat a2_) (List.getD a1_ (Int.toNat a4_) (0 : Int))) (Int.toNat a4_) (List.getD a1_ (Int.toNat a2_) (0 : Int))))) <|
      .g (decide ((Int.toNat a2_) < List.length (List.set (List.set a1_ (Int.toNat a2_) (List.getD a1_ (Int.toNat a4_) (0 : Int))) (Int.toNat a4_) (List.getD a1_ (Int.toNat a2_) (0 : Int))))) <|
      .g (inR r20_ (List.length (List.set (List.set a1_ (Int.toNat a2_) (List.getD a1_ (Int.toNat a4_) (0 : Int))) (Int.toNat a4_) (List.getD a1_ (Int.toNat a2_) (0 : Int))))) <|
      .g (decide ((Int.toNat r20_) < List.length (List.set (List.set a1_ (Int.toNat a2_) (List.getD a1_ (Int.toNat a4_) (0 : Int))) (Int.toNat a4_) (List.getD a1_ (Int.toNat a2_) (0 : Int))))) <|
      .g (inR r20_ (List.length (List.set (List.set a1_ (Int.toNat a2_) (List.getD a1_ (Int.toNat a4_) (0 : Int))) (Int.toNat a4_) (List.getD a1_ (Int.toNat a2_) (0 : Int))))) <|
      .g (decide ((Int.toNat r20_) < List.length (List.set (List.set a1_ (Int.toNat a2_) (List.getD a1_ (Int.toNat a4_) (0 : Int))) (Int.toNat a4_) (List.getD a1_ (Int.toNat a2_) (0 : Int))))) <|
      .g (inR a2_ (List.length (List.set (List.set (List.set a1_ (Int.toNat a2_) (List.getD a1_ (Int.toNat a4_) (0 : Int))) (Int.toNat a4_) (List.getD a1_ (Int.toNat a2_) (0 : Int))) (Int.toNat r20_) (List.getD (List.set (List.set a1_ (Int.toNat a2_) (List.getD a1_ (Int.toNat a4_) (0 : Int))) (Int.toNat a4_) (List.getD a1_ (Int.toNat a2_) (0 : Int))) (Int.toNat a2_) (0 : Int))))) <|
      .g (decide ((Int.toNat a2_) < List.length (List.set (List.set (List.set a1_ (Int.toNat a2_) (List.getD a1_ (Int.toNat a4_) (0 : Int))) (Int.toNat a4_) (List.getD a1_ (Int.toNat a2_) (0 : Int))) (Int.toNat r20_) (List.getD (List.set (List.set a1_ (Int.toNat a2_) (List.getD a1_ (Int.toNat a4_) (0 : Int))) (Int.toNat a4_) (List.getD a1_ (Int.toNat a2_) (0 : Int))) (Int.toNat a2_) (0 : Int))))) <|
      .l (r20_, (true, (List.set (List.set (List.set (List.set a1_ (Int.toNat a2_) (List.getD a1_ (Int.toNat a4_) (0 : Int))) (Int.toNat a4_) (List.getD a1_ (Int.toNat a2_) (0 : Int))) (Int.toNat r20_) (List.getD (List.set (List.set a1_ (Int.toNat a2_) (List.getD a1_ (Int.toNat a4_) (0 : Int))) (Int.toNat a4_) (List.getD a1_ (Int.toNat a2_) (0 : Int))) (Int.toNat a2_) (0 : Int))) (Int.toNat a2_) (List.getD (List.set (List.set a1_ (Int.toNat a2_) (List.getD a1_ (Int.toNat a4_) (0 : Int))) (Int.toNat a4_) (List.getD a1_ (Int.toNat a2_) (0 : Int))) (Int.toNat r20_) (0 : Int))))))
    (.g (inR r20_ (List.length (List.set (List.set a1_ (Int.toNat a2_) (List.getD a1_ (Int.toNat a4_) (0 : Int))) (Int.toNat a4_) (List.getD a1_ (Int.toNat a2_) (0 : Int))))) <|
      .g (decide ((Int.toNat r20_) < List.length (List.set (List.set a1_ (Int.toNat a2_) (List.getD a1_ (Int.toNat a4_) (0 : Int))) (Int.toNat a4_) (List.getD a1_ (Int.toNat a2_) (0 : Int))))) <|
      .g (inR r10_ (List.length (List.set (List.set a1_ (Int.toNat a2_) (List.getD a1_ (Int.toNat a4_) (0 : Int))) (Int.toNat a4_) (List.getD a1_ (Int.toNat a2_) (0 : Int))))) <|
      .g (decide ((Int.toNat r10_) < List.length (List.set (List.set a1_ (Int.toNat a2_) (List.getD a1_ (Int.toNat a4_) (0 : Int))) (Int.toNat a4_) (List.getD a1_ (Int.toNat a2_) (0 : Int))))) <|
      .g (inR r10_ (List.length (List.set (List.set a1_ (Int.toNat a2_) (List.getD a1_ (Int.toNat a4_) (0 : Int))) (Int.toNat a4_) (List.getD a1_ (Int.toNat a2_) (0 : Int))))) <|
      .g (decide ((Int.toNat r10_) < List.length (List.set (List.set a1_ (Int.toNat a2_) (List.getD a1_ (Int.toNat a4_) (0 : Int))) (Int.toNat a4_) (List.getD a1_ (Int.toNat a2_) (0 : Int))))) <|
      .g (inR r20_ (List.length (List.set (List.set (List.set a1_ (Int.toNat a2_) (List.getD a1_ (Int.toNat a4_) (0 : Int))) (Int.toNat a4_) (List.getD a1_ (Int.toNat a2_) (0 : Int))) (Int.toNat r10_) (List.getD (List.set (List.set a1_ (Int.toNat a2_) (List.getD a1_ (Int.toNat a4_) (0 : Int))) (Int.toNat a4_) (List.getD a1_ (Int.toNat a2_) (0 : Int))) (Int.toNat r20_) (0 : Int))))) <|
      .g (decide ((Int.toNat r20_) < List.length (List.set (List.set (List.set a1_ (Int.toNat a2_) (List.getD a1_ (Int.toNat a4_) (0 : Int))) (Int.toNat a4_) (List.getD a1_ (Int.toNat a2_) (0 : Int))) (Int.toNat r10_) (List.getD (List.set (List.set a1_ (Int.toNat a2_) (List.getD a1_ (Int.toNat a4_) (0 : Int))) (Int.toNat a4_) (List.getD a1_ (Int.toNat a2_) (0 : Int))) (Int.toNat r20_) (0 : Int))))) <|
      .c ((Int) × (List (Int))) (L_slices_partitionOrdered_int_4 a2_ ((IntKind.wrap .i64 (r10_ + (1 : Int))), ((IntKind.wrap .i64 (r20_ - (1 : Int))), (List.set (List.set (List.set (List.set a1_ (Int.toNat a2_) (List.getD a1_ (Int.toNat a4_) (0 : Int))) (Int.toNat a4_) (List.getD a1_ (Int.toNat a2_) (0 : Int))) (Int.toNat r10_) (List.getD (List.set (List.set a1_ (Int.toNat a2_) (List.getD a1_ (Int.toNat a4_) (0 : Int))) (Int.toNat a4_) (List.getD a1_ (Int.toNat a2_) (0 : Int))) (Int.toNat r20_) (0 : Int))) (Int.toNat r20_) (List.getD (List.set (List.set a1_ (Int.toNat a2_) (List.getD a1_ (Int.toNat a4_) (0 : Int))) (Int.toNat a4_) (List.getD a1_ (Int.toNat a2_) (0 : Int))) (Int.toNat r10_) (0 : Int)))))) fun r48_ =>
      .g (inR a2_ (List.length r48_.2)) <|
      .g (decide ((Int.toNat a2_) < List.length r48_.2)) <|
      .g (inR r48_.1 (List.length r48_.2)) <|
      .g (decide ((Int.toNat r48_.1) < List.length r48_.2)) <|
      .g (inR r48_.1 (List.length r48_.2)) <|
      .g (decide ((Int.toNat r48_.1) < List.length r48_.2)) <|
      .g (inR a2_ (List.length (List.set r48_.2 (Int.toNat r48_.1) (List.getD r48_.2 (Int.toNat a2_) (0 : Int))))) <|
      .g (decide ((Int.toNat a2_) < List.length (List.set r48_.2 (Int.toNat r48_.1) (List.getD r48_.2 (Int.toNat a2_) (0 : Int))))) <|
      .l (r48_.1, (false, (List.set (List.set r48_.2 (Int.toNat r48_.1) (List.getD r48_.2 (Int.toNat a2_) (0 : Int))) (Int.toNat a2_) (List.getD r48_.2 (Int.toNat r48_.1) (0 : Int))))))
noncomputable def F_slices_partitionOrdered_int (a2_ : Int) (a3_ : Int) (a4_ : Int) (a1_ : List (Int)) : Option ((Int) × ((Bool) × (List (Int)))) := (T_slices_partitionOrdered_int a2_ a3_ a4_ a1_).ev
noncomputable def A_slices_partitionOrdered_int : Sh := (.cons (.arr 64) (.cons (.dat (.int .i64)) (.cons (.dat (.int .i64)) (.cons (.dat (.int .i64)) .nil))))
noncomputable def I_slices_partitionOrdered_int : List (Nat × OSh) := [(64, .arr 3 (.int .i64))]
noncomputable def K_slices_partitionOrdered_int : RetK := { acts := [], res := [.tmp 8, .tmp 9], sh := (.cons (.dat (.int .i64)) (.cons (.dat .bool) .nil)), obs := [(64, .arr 3 (.int .i64))], pins := [(0, 0, 64)] }
noncomputable def D_slices_partitionOrdered_int : FD where
  A := A_slices_partitionOrdered_int
  ins := I_slices_partitionOrdered_int
  lend := [.arg 0]
  R := (Int) × ((Bool) × (List (Int)))
  F := fun x => F_slices_partitionOrdered_int x.1.2.1 x.1.2.2.1 x.1.2.2.2.1 x.2.1
  emb := fun r => ([.dat (.int .i64) r.1, .dat .bool r.2.1], [(64, .arr 3 (.int .i64) r.2.2)])
noncomputable def E_slices_partitionOrdered_int : Env := envOf [(212, D_cmp_Less_int)]
noncomputable def Z_slices_partitionOrdered_int : Nat → Nat → List Nat := fun _ _ => []
noncomputable def O_slices_partitionOrdered_int : List (Nat × LD) := [(0, DL_slices_partitionOrdered_int_0), (2, DL_slices_partitionOrdered_int_2), (6, DL_slices_partitionOrdered_int_6), (8, DL_slices_partitionOrdered_int_8), (4, DL_slices_partitionOrdered_int_4)]
noncomputable def C_slices_partitionOrdered_int : Code := (f214.body).getD .skip
noncomputable def S_slices_pdqsortOrdered_int_0 (rec_ : (Int) → (Int) → (Int) → (List (Int)) → Option (List (Int))) (_k : Unit) (v : (Int) × ((Int) × ((Int) × ((Bool) × ((Bool) × (List (Int))))))) : Tr (((Int) × ((Int) × ((Int) × ((Bool) × ((Bool) × (List (Int))))))) ⊕ (List (Int))) :=
  .t (decide ((IntKind.wrap .i64 (v.2.1 - v.1)) ≤ (12 : Int)))
    (.c (List (Int)) (F_slices_insertionSortOrdered_int v.1 v.2.1 v.2.2.2.2.2) fun r7_ =>
      .l (.inr r7_))
    (.t (v.2.2.1 == (0 : Int))
        (.f)
        (.t (!v.2.2.2.1)
            (.c (List (Int)) (F_slices_breakPatternsOrdered_int v.1 v.2.1 v.2.2.2.2.2) fun r8_ =>
              .c ((Int) × (Int)) (F_slices_choosePivotOrdered_int r8_ v.1 v.2.1) fun r9_ =>
              .t (r9_.2 == (2 : Int))
                (.f)
                (.t v.2.2.2.1
                    (.t v.2.2.2.2.1
                        (.t (r9_.2 == (1 : Int))
                            (.f)
                            (.t (decide ((0 : Int) < v.1))
                                (.g (inR (IntKind.wrap .i64 (v.1 - (1 : Int))) (List.length r8_)) <|
                                  .g (decide ((Int.toNat (IntKind.wrap .i64 (v.1 - (1 : Int)))) < List.length r8_)) <|
                                  .g (inR r9_.1 (List.length r8_)) <|
                                  .g (decide ((Int.toNat r9_.1) < List.length r8_)) <|
                                  .c (Bool) (F_cmp_Less_int (List.getD r8_ (Int.toNat (IntKind.wrap .i64 (v.1 - (1 : Int)))) (0 : Int)) (List.getD r8_ (Int.toNat r9_.1) (0 : Int))) fun r10_ =>
                                  .t (!r10_)
                                    (.f)
                                    (.c ((Int) × ((Bool) × (List (Int)))) (F_slices_partitionOrdered_int v.1 v.2.1 r9_.1 r8_) fun r11_ =>
                                      .g (!decide ((8 : Int) = 0)) <|
                                      .t (decide ((IntKind.wrap .i64 (r11_.1 - v.1)) < (IntKind.wrap .i64 (v.2.1 - r11_.1))))
                                        (.c (List (Int)) (rec_ v.1 r11_.1 (IntKind.wrap .i64 (v.2.2.1 - (1 : Int))) r11_.2.2) fun r12_ =>
                                          .l (.inl ((IntKind.wrap .i64 (r11_.1 + (1 : Int))), (v.2.1, ((IntKind.wrap .i64 (v.2.2.1 - (1 : Int))), ((decide ((IntKind.wrap .i64 (Int.tdiv (IntKind.wrap .i64 (v.2.1 - v.1)) (8 : Int))) ≤ (IntKind.wrap .i64 (r11_.1 - v.1)))), (r11_.2.1, r12_)))))))
                                        (.c (List (Int)) (rec_ (IntKind.wrap .i64 (r11_.1 + (1 : Int))) v.2.1 (IntKind.wrap .i64 (v.2.2.1 - (1 : Int))) r11_.2.2) fun r13_ =>
                                          .l (.inl (v.1, (r11_.1, ((IntKind.wrap .i64 (v.2.2.1 - (1 : Int))), ((decide ((IntKind.wrap .i64 (Int.tdiv (IntKind.wrap .i64 (v.2.1 - v.1)) (8 : Int))) ≤ (IntKind.wrap .i64 (v.2.1 - r11_.1)))), (r11_.2.1, r13_)))))))))
                                (.c ((Int) × ((Bool) × (List (Int)))) (F_slices_partitionOrdered_int v.1 v.2.1 r9_.1 r8_) fun r14_ =>
                                  .g (!decide ((8 : Int) = 0)) <|
                                  .t (decide ((IntKind.wrap .i64 (r14_.1 - v.1)) < (IntKind.wrap .i64 (v.2.1 - r14_.1))))
                                    (.c (List (Int)) (rec_ v.1 r14_.1 (IntKind.wrap .i64 (v.2.2.1 - (1 : Int))) r14_.2.2) fun r15_ =>
                                      .l (.inl ((IntKind.wrap .i64 (r14_.1 + (1 : Int))), (v.2.1, ((IntKind.wrap .i64 (v.2.2.1 - (1 : Int))), ((decide ((IntKind.wrap .i64 (Int.tdiv (IntKind.wrap .i64 (v.2.1 - v.1)) (8 : Int))) ≤ (IntKind.wrap .i64 (r14_.1 - v.1)))), (r14_.2.1, r15_)))))))
                                    (.c (List (Int)) (rec_ (IntKind.wrap .i64 (r14_.1 + (1 : Int))) v.2.1 (IntKind.wrap .i64 (v.2.2.1 - (1 : Int))) r14_.2.2) fun r16_ =>
                                      .l (.inl (v.1, (r14_.1, ((IntKind.wrap .i64 (v.2.2.1 - (1 : Int))), ((decide ((IntKind.wrap .i64 (Int.tdiv (IntKind.wrap .i64 (v.2.1 - v.1)) (8 : Int))) ≤ (IntKind.wrap .i64 (v.2.1 - r14_.1)))), (r14_.2.1, r16_))))))))))
                        (.t (decide ((0 : Int) < v.1))
                            (.g (inR (IntKind.wrap .i64 (v.1 - (1 : Int))) (List.length r8_)) <|
                              .g (decide ((Int.toNat (IntKind.wrap .i64 (v.1 - (1 : Int)))) < List.length r8_)) <|
                              .g (inR r9_.1 (List.length r8_)) <|
                              .g (decide ((Int.toNat r9_.1) < List.length r8_)) <|
                              .c (Bool) (F_cmp_Less_int (List.getD r8_ (Int.toNat (IntKind.wrap .i64 (v.1 - (1 : Int)))) (0 : Int)) (List.getD r8_ (Int.toNat r9_.1) (0 : Int))) fun r17_ =>
                              .t (!r17_)
                                (.f)
                                (.c ((Int) × ((Bool) × (List (Int)))) (F_slices_partitionOrdered_int v.1 v.2.1 r9_.1 r8_) fun r18_ =>
                                  .g (!decide ((8 : Int) = 0)) <|
                                  .t (decide ((IntKind.wrap .i64 (r18_.1 - v.1)) < (IntKind.wrap .i64 (v.2.1 - r18_.1))))
                                    (.c (List (Int)) (rec_ v.1 r18_.1 (IntKind.wrap .i64 (v.2.2.1 - (1 : Int))) r18_.2.2) fun r19_ =>
                                      .l (.inl ((IntKind.wrap .i64 (r18_.1 + (1 : Int))), (v.2.1, ((IntKind.wrap .i64 (v.2.2.1 - (1 : Int))), ((decide ((IntKind.wrap .i64 (Int.tdiv (IntKind.wrap .i64 (v.2.1 - v.1)) (8 : Int))) ≤ (IntKind.wrap .i64 (r18_.1 - v.1)))), (r18_.2.1, r19_)))))))
                                    (.c (List (Int)) (rec_ (IntKind.wrap .i64 (r18_.1 + (1 : Int))) v.2.1 (IntKind.wrap .i64 (v.2.2.1 - (1 : Int))) r18_.2.2) fun r20_ =>
                                      .l (.inl (v.1, (r18_.1, ((IntKind.wrap .i64 (v.2.2.1 - (1 : Int))), ((decide ((IntKind.wrap .i64 (Int.tdiv (IntKind.wrap .i64 (v.2.1 - v.1)) (8 : Int))) ≤ (IntKind.wrap .i64 (v.2.1 - r18_.1)))), (r18_.2.1, r20_)))))))))
                            (.c ((Int) × ((Bool) × (List (Int)))) (F_slices_partitionOrdered_int v.1 v.2.1 r9_.1 r8_) fun r21_ =>
                              .g (!decide ((8 : Int) = 0)) <|
                              .t (decide ((IntKind.wrap .i64 (r21_.1 - v.1)) < (IntKind.wrap .i64 (v.2.1 - r21_.1))))
                                (.c (List (Int)) (rec_ v.1 r21_.1 (IntKind.wrap .i64 (v.2.2.1 - (1 : Int))) r21_.2.2) fun r22_ =>
                                  .l (.inl ((IntKind.wrap .i64 (r21_.1 + (1 : Int))), (v.2.1, ((IntKind.wrap .i64 (v.2.2.1 - (1 : Int))), ((decide ((IntKind.wrap .i64 (Int.tdiv (IntKind.wrap .i64 (v.2.1 - v.1)) (8 : Int))) ≤ (IntKind.wrap .i64 (r21_.1 - v.1)))), (r21_.2.1, r22_)))))))
                                (.c (List (Int)) (rec_ (IntKind.wrap .i64 (r21_.1 + (1 : Int))) v.2.1 (IntKind.wrap .i64 (v.2.2.1 - (1 : Int))) r21_.2.2) fun r23_ =>
                                  .l (.inl (v.1, (r21_.1, ((IntKind.wrap .i64 (v.2.2.1 - (1 : Int))), ((decide ((IntKind.wrap .i64 (Int.tdiv (IntKind.wrap .i64 (v.2.1 - v.1)) (8 : Int))) ≤ (IntKind.wrap .i64 (v.2.1 - r21_.1)))), (r21_.2.1, r23_))))))))))
                    (.t (decide ((0 : Int) < v.1))
                        (.g (inR (IntKind.wrap .i64 (v.1 - (1 : Int))) (List.length r8_)) <|
                          .g (decide ((Int.toNat (IntKind.wrap .i64 (v.1 - (1 : Int)))) < List.length r8_)) <|
                          .g (inR r9_.1 (List.length r8_)) <|
                          .g (decide ((Int.toNat r9_.1) < List.length r8_)) <|
                          .c (Bool) (F_cmp_Less_int (List.getD r8_ (Int.toNat (IntKind.wrap .i64 (v.1 - (1 : Int)))) (0 : Int)) (List.getD r8_ (Int.toNat r9_.1) (0 : Int))) fun r24_ =>
                          .t (!r24_)
                            (.f)
                            (.c ((Int) × ((Bool) × (List (Int)))) (F_slices_partitionOrdered_int v.1 v.2.1 r9_.1 r8_) fun r25_ =>
                              .g (!decide ((8 : Int) = 0)) <|
                              .t (decide ((IntKind.wrap .i64 (r25_.1 - v.1)) < (IntKind.wrap .i64 (v.2.1 - r25_.1))))
                                (.c (List (Int)) (rec_ v.1 r25_.1 (IntKind.wrap .i64 (v.2.2.1 - (1 : Int))) r25_.2.2) fun r26_ =>
                                  .l (.inl ((IntKind.wrap .i64 (r25_.1 + (1 : Int))), (v.2.1, ((IntKind.wrap .i64 (v.2.2.1 - (1 : Int))), ((decide ((IntKind.wrap .i64 (Int.tdiv (IntKind.wrap .i64 (v.2.1 - v.1)) (8 : Int))) ≤ (IntKind.wrap .i64 (r25_.1 - v.1)))), (r25_.2.1, r26_)))))))
                                (.c (List (Int)) (rec_ (IntKind.wrap .i64 (r25_.1 + (1 : Int))) v.2.1 (IntKind.wrap .i64 (v.2.2.1 - (1 : Int))) r25_.2.2) fun r27_ =>
                                  .l (.inl (v.1, (r25_.1, ((IntKind.wrap .i64 (v.2.2.1 - (1 : Int))), ((decide ((IntKind.wrap .i64 (Int.tdiv (IntKind.wrap .i64 (v.2.1 - v.1)) (8 : Int))) ≤ (IntKind.wrap .i64 (v.2.1 - r25_.1)))), (r25_.2.1, r27_)))))))))
                        (.c ((Int) × ((Bool) × (List (Int)))) (F_slices_partitionOrdered_int v.1 v.2.1 r9_.1 r8_) fun r28_ =>
                          .g (!decide ((8 : Int) = 0)) <|
                          .t (decide ((IntKind.wrap .i64 (r28_.1 - v.1)) < (IntKind.wrap .i64 (v.2.1 - r28_.1))))
                            (.c (List (Int)) (rec_ v.1 r28_.1 (IntKind.wrap .i64 (v.2.2.1 - (1 : Int))) r28_.2.2) fun r29_ =>
                              .l (.inl ((IntKind.wrap .i64 (r28_.1 + (1 : Int))), (v.2.1, ((IntKind.wrap .i64 (v.2.2.1 - (1 : Int))), ((decide ((IntKind.wrap .i64 (Int.tdiv (IntKind.wrap .i64 (v.2.1 - v.1)) (8 : Int))) ≤ (IntKind.wrap .i64 (r28_.1 - v.1)))), (r28_.2.1, r29_)))))))
                            (.c (List (Int)) (rec_ (IntKind.wrap .i64 (r28_.1 + (1 : Int))) v.2.1 (IntKind.wrap .i64 (v.2.2.1 - (1 : Int))) r28_.2.2) fun r30_ =>
                              .l (.inl (v.1, (r28_.1, ((IntKind.wrap .i64 (v.2.2.1 - (1 : Int))), ((decide ((IntKind.wrap .i64 (Int.tdiv (IntKind.wrap .i64 (v.2.1 - v.1)) (8 : Int))) ≤ (IntKind.wrap .i64 (v.2.1 - r28_.1)))), (r28_.2.1, r30_)))))))))))
            (.c ((Int) × (Int)) (F_slices_choosePivotOrdered_int v.2.2.2.2.2 v.1 v.2.1) fun r31_ =>
              .t (r31_.2 == (2 : Int))
                (.f)
                (.t v.2.2.2.1
                    (.t v.2.2.2.2.1
                        (.t (r31_.2 == (1 : Int))
                            (.f)
                            (.t (decide ((0 : Int) < v.1))
                                (.g (inR (IntKind.wrap .i64 (v.1 - (1 : Int))) (List.length v.2.2.2.2.2)) <|
                                  .g (decide ((Int.toNat (IntKind.wrap .i64 (v.1 - (1 : Int)))) < List.length v.2.2.2.2.2)) <|
                                  .g (inR r31_.1 (List.length v.2.2.2.2.2)) <|
                                  .g (decide ((Int.toNat r31_.1) < List.length v.2.2.2.2.2)) <|
                                  .c (Bool) (F_cmp_Less_int (List.getD v.2.2.2.2.2 (Int.toNat (IntKind.wrap .i64 (v.1 - (1 : Int)))) (0 : Int)) (List.getD v.2.2.2.2.2 (Int.toNat r31_.1) (0 : Int))) fun r32_ =>
                                  .t (!r32_)
                                    (.f)
                                    (.c ((Int) × ((Bool) × (List (Int)))) (F_slices_partitionOrdered_int v.1 v.2.1 r31_.1 v.2.2.2.2.2) fun r33_ =>
                                      .g (!decide ((8 : Int) = 0)) <|
                                      .t (decide ((IntKind.wrap .i64 (r33_.1 - v.1)) < (IntKind.wrap .i64 (v.2.1 - r33_.1))))
                                        (.c (List (Int)) (rec_ v.1 r33_.1 v.2.2.1 r33_.2.2) fun r34_ =>
                                          .l (.inl ((IntKind.wrap .i64 (r33_.1 + (1 : Int))), (v.2.1, (v.2.2.1, ((decide ((IntKind.wrap .i64 (Int.tdiv (IntKind.wrap .i64 (v.2.1 - v.1)) (8 : Int))) ≤ (IntKind.wrap .i64 (r33_.1 - v.1)))), (r33_.2.1, r34_)))))))
                                        (.c (List (Int)) (rec_ (IntKind.wrap .i64 (r33_.1 + (1 : Int))) v.2.1 v.2.2.1 r33_.2.2) fun r35_ =>
                                          .l (.inl (v.1, (r33_.1, (v.2.2.1, ((decide ((IntKind.wrap .i64 (Int.tdiv (IntKind.wrap .i64 (v.2.1 - v.1)) (8 : Int))) ≤ (IntKind.wrap .i64 (v.2.1 - r33_.1)))), (r33_.2.1, r35_)))))))))
                                (.c ((Int) × ((Bool) × (List (Int)))) (F_slices_partitionOrdered_int v.1 v.2.1 r31_.1 v.2.2.2.2.2) fun r36_ =>
                                  .g (!decide ((8 : Int) = 0)) <|
                                  .t (decide ((IntKind.wrap .i64 (r36_.1 - v.1)) < (IntKind.wrap .i64 (v.2.1 - r36_.1))))
                                    (.c (List (Int)) (rec_ v.1 r36_.1 v.2.2.1 r36_.2.2) fun r37_ =>
                                      .l (.inl ((IntKind.wrap .i64 (r36_.1 + (1 : Int))), (v.2.1, (v.2.2.1, ((decide ((IntKind.wrap .i64 (Int.tdiv (IntKind.wrap .i64 (v.2.1 - v.1)) (8 : Int))) ≤ (IntKind.wrap .i64 (r36_.1 - v.1)))), (r36_.2.1, r37_)))))))
                                    (.c (List (Int)) (rec_ (IntKind.wrap .i64 (r36_.1 + (1 : Int))) v.2.1 v.2.2.1 r36_.2.2) fun r38_ =>
                                      .l (.inl (v.1, (r36_.1, (v.2.2.1, ((decide ((IntKind.wrap .i64 (Int.tdiv (IntKind.wrap .i64 (v.2.1 - v.1)) (8 : Int))) ≤ (IntKind.wrap .i64 (v.2.1 - r36_.1)))), (r36_.2.1, r38_))))))))))
                        (.t (decide ((0 : Int) < v.1))
                            (.g (inR (IntKind.wrap .i64 (v.1 - (1 : Int))) (List.length v.2.2.2.2.2)) <|
                              .g (decide ((Int.toNat (IntKind.wrap .i64 (v.1 - (1 : Int)))) < List.length v.2.2.2.2.2)) <|
                              .g (inR r31_.1 (List.length v.2.2.2.2.2)) <|
                              .g (decide ((Int.toNat r31_.1) < List.length v.2.2.2.2.2)) <|
                              .c (Bool) (F_cmp_Less_int (List.getD v.2.2.2.2.2 (Int.toNat (IntKind.wrap .i64 (v.1 - (1 : Int)))) (0 : Int)) (List.getD v.2.2.2.2.2 (Int.toNat r31_.1) (0 : Int))) fun r39_ =>
                              .t (!r39_)
                                (.f)
                                (.c ((Int) × ((Bool) × (List (Int)))) (F_slices_partitionOrdered_int v.1 v.2.1 r31_.1 v.2.2.2.2.2) fun r40_ =>
                                  .g (!decide ((8 : Int) = 0)) <|
                                  .t (decide ((IntKind.wrap .i64 (r40_.1 - v.1)) < (IntKind.wrap .i64 (v.2.1 - r40_.1))))
                                    (.c (List (Int)) (rec_ v.1 r40_.1 v.2.2.1 r40_.2.2) fun r41_ =>
                                      .l (.inl ((IntKind.wrap .i64 (r40_.1 + (1 : Int))), (v.2.1, (v.2.2.1, ((decide ((IntKind.wrap .i64 (Int.tdiv (IntKind.wrap .i64 (v.2.1 - v.1)) (8 : Int))) ≤ (IntKind.wrap .i64 (r40_.1 - v.1)))), (r40_.2.1, r41_)))))))
                                    (.c (List (Int)) (rec_ (IntKind.wrap .i64 (r40_.1 + (1 : Int))) v.2.1 v.2.2.1 r40_.2.2) fun r42_ =>
                                      .l (.inl (v.1, (r40_.1, (v.2.2.1, ((decide ((IntKind.wrap .i64 (Int.tdiv (IntKind.wrap .i64 (v.2.1 - v.1)) (8 : Int))) ≤ (IntKind.wrap .i64 (v.2.1 - r40_.1)))), (r40_.2.1, r42_)))))))))
                            (.c ((Int) × ((Bool) × (List (Int)))) (F_slices_partitionOrdered_int v.1 v.2.1 r31_.1 v.2.2.2.2.2) fun r43_ =>
                              .g (!decide ((8 : Int) = 0)) <|
                              .t (decide ((IntKind.wrap .i64 (r43_.1 - v.1)) < (IntKind.wrap .i64 (v.2.1 - r43_.1))))
                                (.c (List (Int)) (rec_ v.1 r43_.1 v.2.2.1 r43_.2.2) fun r44_ =>
                                  .l (.inl ((IntKind.wrap .i64 (r43_.1 + (1 : Int))), (v.2.1, (v.2.2.1, ((decide ((IntKind.wrap .i64 (Int.tdiv (IntKind.wrap .i64 (v.2.1 - v.1)) (8 : Int))) ≤ (IntKind.wrap .i64 (r43_.1 - v.1)))), (r43_.2.1, r44_)))))))
                                (.c (List (Int)) (rec_ (IntKind.wrap .i64 (r43_.1 + (1 : Int))) v.2.1 v.2.2.1 r43_.2.2) fun r45_ =>
                                  .l (.inl (v.1, (r43_.1, (v.2.2.1, ((decide ((IntKind.wrap .i64 (Int.tdiv (IntKind.wrap .i64 (v.2.1 - v.1)) (8 : Int))) ≤ (IntKind.wrap .i64 (v.2.1 - r43_.1)))), (r43_.2.1, r45_))))))))))
                    (.t (decide ((0 : Int) < v.1))
                        (.g (inR (IntKind.wrap .i64 (v.1 - (1 : Int))) (List.length v.2.2.2.2.2)) <|
                          .g (decide ((Int.toNat (IntKind.wrap .i64 (v.1 - (1 : Int)))) < List.length v.2.2.2.2.2)) <|
                          .g (inR r31_.1 (List.length v.2.2.2.2.2)) <|
                          .g (decide ((Int.toNat r31_.1) < List.length v.2.2.2.2.2)) <|
                          .c (Bool) (F_cmp_Less_int (List.getD v.2.2.2.2.2 (Int.toNat (IntKind.wrap .i64 (v.1 - (1 : Int)))) (0 : Int)) (List.getD v.2.2.2.2.2 (Int.toNat r31_.1) (0 : Int))) fun r46_ =>
                          .t (!r46_)
                            (.f)
                            (.c ((Int) × ((Bool) × (List (Int)))) (F_slices_partitionOrdered_int v.1 v.2.1 r31_.1 v.2.2.2.2.2) fun r47_ =>
                              .g (!decide ((8 : Int) = 0)) <|
                              .t (decide ((IntKind.wrap .i64 (r47_.1 - v.1)) < (IntKind.wrap .i64 (v.2.1 - r47_.1))))
                                (.c (List (Int)) (rec_ v.1 r47_.1 v.2.2.1 r47_.2.2) fun r48_ =>
                                  .l (.inl ((IntKind.wrap .i64 (r47_.1 + (1 : Int))), (v.2.1, (v.2.2.1, ((decide ((IntKind.wrap .i64 (Int.tdiv (IntKind.wrap .i64 (v.2.1 - v.1)) (8 : Int))) ≤ (IntKind.wrap .i64 (r47_.1 - v.1)))), (r47_.2.1, r48_)))))))
                                (.c (List (Int)) (rec_ (IntKind.wrap .i64 (r47_.1 + (1 : Int))) v.2.1 v.2.2.1 r47_.2.2) fun r49_ =>
                                  .l (.inl (v.1, (r47_.1, (v.2.2.1, ((decide ((IntKind.wrap .i64 (Int.tdiv (IntKind.wrap .i64 (v.2.1 - v.1)) (8 : Int))) ≤ (IntKind.wrap .i64 (v.2.1 - r47_.1)))), (r47_.2.1, r49_)))))))))
                        (.c ((Int) × ((Bool) × (List (Int)))) (F_slices_partitionOrdered_int v.1 v.2.1 r31_.1 v.2.2.2.2.2) fun r50_ =>
                          .g (!decide ((8 : Int) = 0)) <|
                          .t (decide ((IntKind.wrap .i64 (r50_.1 - v.1)) < (IntKind.wrap .i64 (v.2.1 - r50_.1))))
                            (.c (List (Int)) (rec_ v.1 r50_.1 v.2.2.1 r50_.2.2) fun r51_ =>
                              .l (.inl ((IntKind.wrap .i64 (r50_.1 + (1 : Int))), (v.2.1, (v.2.2.1, ((decide ((IntKind.wrap .i64 (Int.tdiv (IntKind.wrap .i64 (v.2.1 - v.1)) (8 : Int))) ≤ (IntKind.wrap .i64 (r50_.1 - v.1)))), (r50_.2.1, r51_)))))))
                            (.c (List (Int)) (rec_ (IntKind.wrap .i64 (r50_.1 + (1 : Int))) v.2.1 v.2.2.1 r50_.2.2) fun r52_ =>
                              .l (.inl (v.1, (r50_.1, (v.2.2.1, ((decide ((IntKind.wrap .i64 (Int.tdiv (IntKind.wrap .i64 (v.2.1 - v.1)) (8 : Int))) ≤ (IntKind.wrap .i64 (v.2.1 - r50_.1)))), (r50_.2.1, r52_)))))))))))))
noncomputable def L_slices_pdqsortOrdered_int_0 (rec_ : (Int) → (Int) → (Int) → (List (Int)) → Option (List (Int))) (k : Unit) (v : (Int) × ((Int) × ((Int) × ((Bool) × ((Bool) × (List (Int))))))) : Option (List (Int)) := iter (fun v => (S_slices_pdqsortOrdered_int_0 rec_ k v).ev) v
noncomputable def DL_slices_pdqsortOrdered_int_0 (rec_ : (Int) → (Int) → (Int) → (List (Int)) → Option (List (Int))) : LD where
  head := { acts := [], S := { slots := [0, 1, 2, 3, 8, 9], sh := (.cons (.arr 64) (.cons (.dat (.int .i64)) (.cons (.dat (.int .i64)) (.cons (.dat (.int .i64)) (.cons (.dat .bool) (.cons (.dat .bool) .nil)))))), obs := [(64, .arr 3 (.int .i64))] } }
  exits := []
  rets := { acts := [], S := { slots := [0], sh := (.cons (.arr 64) .nil), obs := [(64, .arr 3 (.int .i64))] } }
  K := Unit
  V := (Int) × ((Int) × ((Int) × ((Bool) × ((Bool) × (List (Int))))))
  R := List (Int)
  join := fun _ v => (((), (v.1, (v.2.1, (v.2.2.1, (v.2.2.2.1, (v.2.2.2.2.1, ())))))), (v.2.2.2.2.2, ()))
  sk := fun _ => ()
  sv := fun t => (t.1.2.1, (t.1.2.2.1, (t.1.2.2.2.1, (t.1.2.2.2.2.1, (t.1.2.2.2.2.2.1, t.2.1)))))
  step := S_slices_pdqsortOrdered_int_0 rec_
  leaf := fun _ r => .l (.ret (mkSt ({ slots := [0], sh := (.cons (.arr 64) .nil), obs := [(64, .arr 3 (.int .i64))] }) (((), ()), (r, ()))))
noncomputable def T_slices_pdqsortOrdered_int (rec_ : (Int) → (Int) → (Int) → (List (Int)) → Option (List (Int))) (a2_ : Int) (a3_ : Int) (a4_ : Int) (a1_ : List (Int)) : Tr (List (Int)) :=
  .c (List (Int)) (L_slices_pdqsortOrdered_int_0 rec_ () (a2_, (a3_, (a4_, (true, (true, a1_)))))) fun r54_ =>
  .l r54_
noncomputable def F_slices_pdqsortOrdered_int : Nat → (Int) → (Int) → (Int) → (List (Int)) → Option (List (Int))
  | 0 => fun _ _ _ _ => none
  | n + 1 => fun a2_ a3_ a4_ a1_ => (T_slices_pdqsortOrdered_int (F_slices_pdqsortOrdered_int n) a2_ a3_ a4_ a1_).ev
noncomputable def A_slices_pdqsortOrdered_int : Sh := (.cons (.arr 64) (.cons (.dat (.int .i64)) (.cons (.dat (.int .i64)) (.cons (.dat (.int .i64)) .nil))))
noncomputable def I_slices_pdqsortOrdered_int : List (Nat × OSh) := [(64, .arr 3 (.int .i64))]
noncomputable def K_slices_pdqsortOrdered_int : RetK := { acts := [], res := [], sh := .nil, obs := [(64, .arr 3 (.int .i64))], pins := [(0, 0, 64)] }
noncomputable def Dr_slices_pdqsortOrdered_int (rec_ : (Int) → (Int) → (Int) → (List (Int)) → Option (List (Int))) : FD where
  A := A_slices_pdqsortOrdered_int
  ins := I_slices_pdqsortOrdered_int
  lend := [.arg 0]
  R := List (Int)
  F := fun x => rec_ x.1.2.1 x.1.2.2.1 x.1.2.2.2.1 x.2.1
  emb := fun r => ([], [(64, .arr 3 (.int .i64) r)])
noncomputable def D_slices_pdqsortOrdered_int (n : Nat) : FD := Dr_slices_pdqsortOrdered_int (F_slices_pdqsortOrdered_int n)
noncomputable def E_slices_pdqsortOrdered_int (rec_ : (Int) → (Int) → (Int) → (List (Int)) → Option (List (Int))) : Env := envOf [(206, D_slices_insertionSortOrdered_int), (208, D_slices_breakPatternsOrdered_int), (209, D_slices_choosePivotOrdered_int), (212, D_cmp_Less_int), (214, D_slices_partitionOrdered_int), (185, Dr_slices_pdqsortOrdered_int rec_)]
noncomputable def Z_slices_pdqsortOrdered_int : Nat → Nat → List Nat := fun _ _ => []
noncomputable def O_slices_pdqsortOrdered_int (rec_ : (Int) → (Int) → (Int) → (List (Int)) → Option (List (Int))) : List (Nat × LD) := [(0, DL_slices_pdqsortOrdered_int_0 rec_)]
noncomputable def C_slices_pdqsortOrdered_int : Code := (f185.body).getD .skip
noncomputable def T_slices_Sort_Sint_int (a1_ : List (Int)) : Tr (List (Int)) :=
  .c (Int) (F_math_bits_Len (IntKind.wrap .u64 ((List.length a1_ : Nat) : Int))) fun r1_ =>
  .c (List (Int)) (F_slices_pdqsortOrdered_int 1000000 (0 : Int) ((List.length a1_ : Nat) : Int) r1_ a1_) fun r2_ =>
  .l r2_
noncomputable def F_slices_Sort_Sint_int (a1_ : List (Int)) : Option (List (Int)) := (T_slices_Sort_Sint_int a1_).ev
noncomputable def A_slices_Sort_Sint_int : Sh := (.cons (.arr 64) .nil)
noncomputable def I_slices_Sort_Sint_int : List (Nat × OSh) := [(64, .arr 3 (.int .i64))]
noncomputable def K_slices_Sort_Sint_int : RetK := { acts := [], res := [], sh := .nil, obs := [(64, .arr 3 (.int .i64))], pins := [(0, 0, 64)] }
noncomputable def D_slices_Sort_Sint_int : FD where
  A := A_slices_Sort_Sint_int
  ins := I_slices_Sort_Sint_int
  lend := [.arg 0]
  R := List (Int)
  F := fun x => F_slices_Sort_Sint_int x.2.1
  emb := fun r => ([], [(64, .arr 3 (.int .i64) r)])
noncomputable def E_slices_Sort_Sint_int : Env := envOf [(186, D_math_bits_Len), (185, D_slices_pdqsortOrdered_int 1000000)]
noncomputable def Z_slices_Sort_Sint_int : Nat → Nat → List Nat := fun _ _ => []
noncomputable def O_slices_Sort_Sint_int : List (Nat × LD) := []
noncomputable def C_slices_Sort_Sint_int : Code := (f141.body).getD .skip
noncomputable def T_slices_Sorted_int (a1_ : List (Int)) : Tr (List (Int)) :=
  .c (List Int) (F_slices_Collect_int a1_) fun r1_ =>
  .c (List (Int)) (F_slices_Sort_Sint_int r1_) fun r2_ =>
  .l r2_
noncomputable def F_slices_Sorted_int (a1_ : List (Int)) : Option (List (Int)) := (T_slices_Sorted_int a1_).ev
noncomputable def A_slices_Sorted_int : Sh := (.cons (.dat (.seq 190)) .nil)
noncomputable def I_slices_Sorted_int : List (Nat × OSh) := []
noncomputable def K_slices_Sorted_int : RetK := { acts := [.ren 320 0], res := [.tmp 2], sh := (.cons (.arr 0) .nil), obs := [(0, .arr 3 (.int .i64))], pins := [] }
noncomputable def D_slices_Sorted_int : FD where
  A := A_slices_Sorted_int
  ins := I_slices_Sorted_int
  lend := []
  R := List (Int)
  F := fun x => F_slices_Sorted_int x.1.1
  emb := fun r => ([.arr 0], [(0, .arr 3 (.int .i64) r)])
noncomputable def E_slices_Sorted_int : Env := envOf [(189, D_slices_Collect_int), (141, D_slices_Sort_Sint_int)]
noncomputable def Z_slices_Sorted_int : Nat → Nat → List Nat := fun _ _ => []
noncomputable def O_slices_Sorted_int : List (Nat × LD) := []
noncomputable def C_slices_Sorted_int : Code := (f149.body).getD .skip
noncomputable def S_im_isRising_0 (k : (List (Int)) × ((Int) × ((List (Int)) × (Int)))) (v : Int) : Tr ((Int) ⊕ ((Unit) ⊕ (Unit))) :=
  .t (decide (v < k.2.2.2))
    (.g (inR v (List.length k.2.2.1)) <|
      .c (Bool) (F_im_between (List.getD k.2.2.1 (Int.toNat v) (0 : Int)) (0 : Int) (IntKind.wrap .i64 (k.2.1 - (1 : Int)))) fun r6_ =>
      .t (!r6_)
        (.l (.inr (.inr ())))
        (.t (decide ((0 : Int) < v))
            (.g (inR (IntKind.wrap .i64 (v - (1 : Int))) (List.length k.1)) <|
              .t (decide ((List.getD k.2.2.1 (Int.toNat v) (0 : Int)) ≤ (List.getD k.1 (Int.toNat (IntKind.wrap .i64 (v - (1 : Int)))) (0 : Int))))
                (.l (.inr (.inr ())))
                (.l (.inl (IntKind.wrap .i64 (v + (1 : Int))))))
            (.l (.inl (IntKind.wrap .i64 (v + (1 : Int)))))))
    (.l (.inr (.inl ())))
noncomputable def L_im_isRising_0 (k : (List (Int)) × ((Int) × ((List (Int)) × (Int)))) (v : Int) : Option ((Unit) ⊕ (Unit)) := iter (fun v => (S_im_isRising_0 k v).ev) v
noncomputable def DL_im_isRising_0 : LD where
  head := { acts := [], S := { slots := [0, 1, 7, 8, 9], sh := (.cons (.dat (.slice (.int .i64))) (.cons (.dat (.int .i64)) (.cons (.dat (.slice (.int .i64))) (.cons (.dat (.int .i64)) (.cons (.dat (.int .i64)) .nil))))), obs := [] } }
  exits := [(0, { acts := [], S := { slots := [], sh := .nil, obs := [] } })]
  rets := { acts := [], S := { slots := [4], sh := (.cons (.dat .bool) .nil), obs := [] } }
  K := (List (Int)) × ((Int) × ((List (Int)) × (Int)))
  V := Int
  R := (Unit) ⊕ (Unit)
  join := fun k v => ((k.1, (k.2.1, (k.2.2.1, (k.2.2.2, (v, ()))))), ())
  sk := fun t => (t.1.1, (t.1.2.1, (t.1.2.2.1, t.1.2.2.2.1)))
  sv := fun t => t.1.2.2.2.2.1
  step := S_im_isRising_0
  leaf := fun _ r => .s (Unit) (Unit) r (fun _ => .l (.exit 0 (mkSt ({ slots := [], sh := .nil, obs := [] }) ((), ())))) (fun _ => .l (.ret (mkSt ({ slots := [4], sh := (.cons (.dat .bool) .nil), obs := [] }) ((false, ()), ()))))
noncomputable def T_im_isRising (a1_ : List (Int)) (a2_ : Int) : Tr (Bool) :=
  .c ((Unit) ⊕ (Unit)) (L_im_isRising_0 (a1_, (a2_, (a1_, ((List.length a1_ : Nat) : Int)))) (0 : Int)) fun r8_ =>
  .s (Unit) (Unit) r8_
    (fun _ => .l true)
    (fun _ => .l false)
noncomputable def F_im_isRising (a1_ : List (Int)) (a2_ : Int) : Option (Bool) := (T_im_isRising a1_ a2_).ev
noncomputable def A_im_isRising : Sh := (.cons (.dat (.slice (.int .i64))) (.cons (.dat (.int .i64)) .nil))
noncomputable def I_im_isRising : List (Nat × OSh) := []
noncomputable def K_im_isRising : RetK := { acts := [], res := [.tmp 4], sh := (.cons (.dat .bool) .nil), obs := [], pins := [] }
noncomputable def D_im_isRising : FD where
  A := A_im_isRising
  ins := I_im_isRising
  lend := []
  R := Bool
  F := fun x => F_im_isRising x.1.1 x.1.2.1
  emb := fun r => ([.dat .bool r], [])
noncomputable def E_im_isRising : Env := envOf [(67, D_im_between)]
noncomputable def Z_im_isRising : Nat → Nat → List Nat := fun _ _ => []
noncomputable def O_im_isRising : List (Nat × LD) := [(0, DL_im_isRising_0)]
noncomputable def C_im_isRising : Code := (f148.body).getD .skip
noncomputable def T_im_isOrder (a1_ : List (Int)) (a2_ : Int) : Tr (Bool) :=
  .t (((List.length a1_ : Nat) : Int) == a2_)
    (.c (List Int) (F_slices_Values_Sint_int a1_) fun r1_ =>
      .c (List (Int)) (F_slices_Sorted_int r1_) fun r2_ =>
      .c (Bool) (F_im_isRising r2_ a2_) fun r3_ =>
      .l r3_)
    (.l false)
noncomputable def F_im_isOrder (a1_ : List (Int)) (a2_ : Int) : Option (Bool) := (T_im_isOrder a1_ a2_).ev
noncomputable def A_im_isOrder : Sh := (.cons (.dat (.slice (.int .i64))) (.cons (.dat (.int .i64)) .nil))
noncomputable def I_im_isOrder : List (Nat × OSh) := []
noncomputable def K_im_isOrder : RetK := { acts := [], res := [.tmp 4], sh := (.cons (.dat .bool) .nil), obs := [], pins := [] }
noncomputable def D_im_isOrder : FD where
  A := A_im_isOrder
  ins := I_im_isOrder
  lend := []
  R := Bool
  F := fun x => F_im_isOrder x.1.1 x.1.2.1
  emb := fun r => ([.dat .bool r], [])
noncomputable def E_im_isOrder : Env := envOf [(150, D_slices_Values_Sint_int), (149, D_slices_Sorted_int), (148, D_im_isRising)]
noncomputable def Z_im_isOrder : Nat → Nat → List Nat := fun _ _ => []
noncomputable def O_im_isOrder : List (Nat × LD) := []
noncomputable def C_im_isOrder : Code := (f97.body).getD .skip
noncomputable def T_im_isNear_1 (a1_ : Int) (a2_ : List (List (Int))) (a3_ : Int) (a4_ : Int) : Tr (Bool) :=
  .g (inR a3_ (List.length a2_)) <|
  .g (inR a1_ (List.length (List.getD a2_ (Int.toNat a3_) ([] : List (Int))))) <|
  .l (decide (a4_ ≤ (List.getD (List.getD a2_ (Int.toNat a3_) ([] : List (Int))) (Int.toNat a1_) (0 : Int))))
noncomputable def F_im_isNear_1 (a1_ : Int) (a2_ : List (List (Int))) (a3_ : Int) (a4_ : Int) : Option (Bool) := (T_im_isNear_1 a1_ a2_ a3_ a4_).ev
noncomputable def A_im_isNear_1 : Sh := (.cons (.dat (.int .i64)) (.cons (.ptr (.cons (.dat (.slice (.slice (.int .i64)))) .nil)) (.cons (.ptr (.cons (.dat (.int .i64)) .nil)) (.cons (.ptr (.cons (.dat (.int .i64)) .nil)) .nil))))
noncomputable def I_im_isNear_1 : List (Nat × OSh) := []
noncomputable def K_im_isNear_1 : RetK := { acts := [], res := [.tmp 5], sh := (.cons (.dat .bool) .nil), obs := [], pins := [] }
noncomputable def D_im_isNear_1 : FD where
  A := A_im_isNear_1
  ins := I_im_isNear_1
  lend := []
  R := Bool
  F := fun x => F_im_isNear_1 x.1.1 x.1.2.1.1 x.1.2.2.1.1 x.1.2.2.2.1.1
  emb := fun r => ([.dat .bool r], [])
noncomputable def E_im_isNear_1 : Env := envOf []
noncomputable def Z_im_isNear_1 : Nat → Nat → List Nat := fun _ _ => []
noncomputable def O_im_isNear_1 : List (Nat × LD) := []
noncomputable def C_im_isNear_1 : Code := (f153.body).getD .skip
noncomputable def T_im_isNear (a1_ : List (List (Int))) (a2_ : Int) (a3_ : List (Int)) (a4_ : Int) : Tr (Bool) :=
  .c (Bool) (F_slices_ContainsFunc_Sint_int a3_ (fun h1_ => Option.bind (F_im_isNear_1 h1_.1 a1_ a2_ a4_) fun y2_ => some y2_)) fun r3_ =>
  .l (!r3_)
noncomputable def F_im_isNear (a1_ : List (List (Int))) (a2_ : Int) (a3_ : List (Int)) (a4_ : Int) : Option (Bool) := (T_im_isNear a1_ a2_ a3_ a4_).ev
noncomputable def A_im_isNear : Sh := (.cons (.dat (.slice (.slice (.int .i64)))) (.cons (.dat (.int .i64)) (.cons (.dat (.slice (.int .i64))) (.cons (.dat (.int .i64)) .nil))))
noncomputable def I_im_isNear : List (Nat × OSh) := []
noncomputable def K_im_isNear : RetK := { acts := [], res := [.tmp 8], sh := (.cons (.dat .bool) .nil), obs := [], pins := [] }
noncomputable def D_im_isNear : FD where
  A := A_im_isNear
  ins := I_im_isNear
  lend := []
  R := Bool
  F := fun x => F_im_isNear x.1.1 x.1.2.1 x.1.2.2.1 x.1.2.2.2.1
  emb := fun r => ([.dat .bool r], [])
noncomputable def E_im_isNear : Env := envOf [(99, D_slices_ContainsFunc_Sint_int), (99, D_slices_ContainsFunc_Sint_int), (153, D_im_isNear_1)]
noncomputable def Z_im_isNear : Nat → Nat → List Nat := fun _ _ => []
noncomputable def O_im_isNear : List (Nat × LD) := []
noncomputable def C_im_isNear : Code := (f101.body).getD .skip
noncomputable def T_im_ProvesApart_1 (a1_ : Int) (a2_ : List (List (Int))) (a3_ : List (Int)) (a4_ : Int) : Tr (Bool) :=
  .c (Bool) (F_im_isNear a2_ a1_ a3_ a4_) fun r1_ =>
  .l (!r1_)
noncomputable def F_im_ProvesApart_1 (a1_ : Int) (a2_ : List (List (Int))) (a3_ : List (Int)) (a4_ : Int) : Option (Bool) := (T_im_ProvesApart_1 a1_ a2_ a3_ a4_).ev
noncomputable def A_im_ProvesApart_1 : Sh := (.cons (.dat (.int .i64)) (.cons (.ptr (.cons (.dat (.slice (.slice (.int .i64)))) .nil)) (.cons (.ptr (.cons (.dat (.slice (.int .i64))) .nil)) (.cons (.ptr (.cons (.dat (.int .i64)) .nil)) .nil))))
noncomputable def I_im_ProvesApart_1 : List (Nat × OSh) := []
noncomputable def K_im_ProvesApart_1 : RetK := { acts := [], res := [.tmp 5], sh := (.cons (.dat .bool) .nil), obs := [], pins := [] }
noncomputable def D_im_ProvesApart_1 : FD where
  A := A_im_ProvesApart_1
  ins := I_im_ProvesApart_1
  lend := []
  R := Bool
  F := fun x => F_im_ProvesApart_1 x.1.1 x.1.2.1.1 x.1.2.2.1.1 x.1.2.2.2.1.1
  emb := fun r => ([.dat .bool r], [])
noncomputable def E_im_ProvesApart_1 : Env := envOf [(101, D_im_isNear)]
noncomputable def Z_im_ProvesApart_1 : Nat → Nat → List Nat := fun _ _ => []
noncomputable def O_im_ProvesApart_1 : List (Nat × LD) := []
noncomputable def C_im_ProvesApart_1 : Code := (f100.body).getD .skip
noncomputable def S_im_ProvesApart_0 (k : (List (List (Int))) × ((Int) × ((List (List (Int))) × (Int)))) (v : Int) : Tr ((Int) ⊕ ((Unit) ⊕ (Unit))) :=
  .t (decide (v < k.2.1))
    (.g (inR v (List.length k.1)) <|
      .t (((List.length (List.getD k.1 (Int.toNat v) ([] : List (Int))) : Nat) : Int) == (0 : Int))
        (.l (.inr (.inr ())))
        (.c (Bool) (F_slices_ContainsFunc_Sint_int (List.getD k.1 (Int.toNat v) ([] : List (Int))) (fun h10_ => Option.bind (F_im_ProvesApart_1 h10_.1 k.2.2.1 (List.getD k.1 (Int.toNat v) ([] : List (Int))) k.2.2.2) fun y11_ => some y11_)) fun r12_ =>
          .t r12_
            (.l (.inr (.inr ())))
            (.l (.inl (IntKind.wrap .i64 (v + (1 : Int)))))))
    (.l (.inr (.inl ())))
noncomputable def L_im_ProvesApart_0 (k : (List (List (Int))) × ((Int) × ((List (List (Int))) × (Int)))) (v : Int) : Option ((Unit) ⊕ (Unit)) := iter (fun v => (S_im_ProvesApart_0 k v).ev) v
noncomputable def DL_im_ProvesApart_0 : LD where
  head := { acts := [], S := { slots := [3, 5, 24, 25, 26], sh := (.cons (.box 3 0) (.cons (.box 5 0) (.cons (.dat (.slice (.slice (.int .i64)))) (.cons (.dat (.int .i64)) (.cons (.dat (.int .i64)) .nil))))), obs := [(3, .cells (.cons (.dat (.slice (.slice (.int .i64)))) .nil)), (5, .cells (.cons (.dat (.int .i64)) .nil))] } }
  exits := [(0, { acts := [], S := { slots := [], sh := .nil, obs := [] } })]
  rets := { acts := [], S := { slots := [6, 7], sh := (.cons (.dat .bool) (.cons (.dat .bool) .nil)), obs := [] } }
  K := (List (List (Int))) × ((Int) × ((List (List (Int))) × (Int)))
  V := Int
  R := (Unit) ⊕ (Unit)
  join := fun k v => (((), ((), (k.1, (k.2.1, (v, ()))))), ((k.2.2.1, ()), ((k.2.2.2, ()), ())))
  sk := fun t => (t.1.2.2.1, (t.1.2.2.2.1, (t.2.1.1, t.2.2.1.1)))
  sv := fun t => t.1.2.2.2.2.1
  step := S_im_ProvesApart_0
  leaf := fun _ r => .s (Unit) (Unit) r (fun _ => .l (.exit 0 (mkSt ({ slots := [], sh := .nil, obs := [] }) ((), ())))) (fun _ => .l (.ret (mkSt ({ slots := [6, 7], sh := (.cons (.dat .bool) (.cons (.dat .bool) .nil)), obs := [] }) ((false, (true, ())), ()))))
noncomputable def T_im_ProvesApart (a1_ : List (List (Int))) (a2_ : List (List (Int))) (a3_ : Int) : Tr ((Bool) × (Bool)) :=
  .c (Bool) (F_im_IsGround a1_) fun r1_ =>
  .t (!r1_)
    (.l (false, false))
    (.c (Bool) (F_im_between a3_ (1 : Int) (100 : Int)) fun r2_ =>
      .t (!r2_)
        (.l (false, false))
        (.c (List (Int)) (F_slices_Concat_Sint_int a2_) fun r3_ =>
          .c (Bool) (F_im_isOrder r3_ ((List.length a1_ : Nat) : Int)) fun r4_ =>
          .t (!r4_)
            (.l (false, true))
            (.c ((Unit) ⊕ (Unit)) (L_im_ProvesApart_0 (a2_, (((List.length a2_ : Nat) : Int), (a1_, a3_))) (0 : Int)) fun r15_ =>
              .s (Unit) (Unit) r15_
                (fun _ => .l (true, true))
                (fun _ => .l (false, true)))))
noncomputable def F_im_ProvesApart (a1_ : List (List (Int))) (a2_ : List (List (Int))) (a3_ : Int) : Option ((Bool) × (Bool)) := (T_im_ProvesApart a1_ a2_ a3_).ev
noncomputable def A_im_ProvesApart : Sh := (.cons (.dat (.slice (.slice (.int .i64)))) (.cons (.dat (.slice (.slice (.int .i64)))) (.cons (.dat (.int .i64)) .nil)))
noncomputable def I_im_ProvesApart : List (Nat × OSh) := []
noncomputable def K_im_ProvesApart : RetK := { acts := [], res := [.tmp 6, .tmp 7], sh := (.cons (.dat .bool) (.cons (.dat .bool) .nil)), obs := [], pins := [] }
noncomputable def D_im_ProvesApart : FD where
  A := A_im_ProvesApart
  ins := I_im_ProvesApart
  lend := []
  R := (Bool) × (Bool)
  F := fun x => F_im_ProvesApart x.1.1 x.1.2.1 x.1.2.2.1
  emb := fun r => ([.dat .bool r.1, .dat .bool r.2], [])
noncomputable def E_im_ProvesApart : Env := envOf [(66, D_im_IsGround), (67, D_im_between), (98, D_slices_Concat_Sint_int), (97, D_im_isOrder), (99, D_slices_ContainsFunc_Sint_int), (99, D_slices_ContainsFunc_Sint_int), (100, D_im_ProvesApart_1)]
noncomputable def Z_im_ProvesApart : Nat → Nat → List Nat := fun _ _ => []
noncomputable def O_im_ProvesApart : List (Nat × LD) := [(0, DL_im_ProvesApart_0)]
noncomputable def C_im_ProvesApart : Code := (f33.body).getD .skip
noncomputable def S_lw_eqIntS_0 (k : (List (Int)) × (List (Int))) (v : Int) : Tr ((Int) ⊕ ((Unit) ⊕ (Unit))) :=
  .t (decide (v < ((List.length k.1 : Nat) : Int)))
    (.g (inR v (List.length k.1)) <|
      .g (inR v (List.length k.2)) <|
      .t ((List.getD k.1 (Int.toNat v) (0 : Int)) != (List.getD k.2 (Int.toNat v) (0 : Int)))
        (.l (.inr (.inr ())))
        (.l (.inl (IntKind.wrap .i64 (v + (1 : Int))))))
    (.l (.inr (.inl ())))
noncomputable def L_lw_eqIntS_0 (k : (List (Int)) × (List (Int))) (v : Int) : Option ((Unit) ⊕ (Unit)) := iter (fun v => (S_lw_eqIntS_0 k v).ev) v
noncomputable def DL_lw_eqIntS_0 : LD where
  head := { acts := [], S := { slots := [0, 1, 5], sh := (.cons (.dat (.slice (.int .i64))) (.cons (.dat (.slice (.int .i64))) (.cons (.dat (.int .i64)) .nil))), obs := [] } }
  exits := [(0, { acts := [], S := { slots := [], sh := .nil, obs := [] } })]
  rets := { acts := [], S := { slots := [4], sh := (.cons (.dat .bool) .nil), obs := [] } }
  K := (List (Int)) × (List (Int))
  V := Int
  R := (Unit) ⊕ (Unit)
  join := fun k v => ((k.1, (k.2, (v, ()))), ())
  sk := fun t => (t.1.1, t.1.2.1)
  sv := fun t => t.1.2.2.1
  step := S_lw_eqIntS_0
  leaf := fun _ r => .s (Unit) (Unit) r (fun _ => .l (.exit 0 (mkSt ({ slots := [], sh := .nil, obs := [] }) ((), ())))) (fun _ => .l (.ret (mkSt ({ slots := [4], sh := (.cons (.dat .bool) .nil), obs := [] }) ((false, ()), ()))))
noncomputable def T_lw_eqIntS (a1_ : List (Int)) (a2_ : List (Int)) : Tr (Bool) :=
  .t (((List.length a1_ : Nat) : Int) != ((List.length a2_ : Nat) : Int))
    (.l false)
    (.c ((Unit) ⊕ (Unit)) (L_lw_eqIntS_0 (a1_, a2_) (0 : Int)) fun r5_ =>
      .s (Unit) (Unit) r5_
        (fun _ => .l true)
        (fun _ => .l false))
noncomputable def F_lw_eqIntS (a1_ : List (Int)) (a2_ : List (Int)) : Option (Bool) := (T_lw_eqIntS a1_ a2_).ev
noncomputable def A_lw_eqIntS : Sh := (.cons (.dat (.slice (.int .i64))) (.cons (.dat (.slice (.int .i64))) .nil))
noncomputable def I_lw_eqIntS : List (Nat × OSh) := []
noncomputable def K_lw_eqIntS : RetK := { acts := [], res := [.tmp 4], sh := (.cons (.dat .bool) .nil), obs := [], pins := [] }
noncomputable def D_lw_eqIntS : FD where
  A := A_lw_eqIntS
  ins := I_lw_eqIntS
  lend := []
  R := Bool
  F := fun x => F_lw_eqIntS x.1.1 x.1.2.1
  emb := fun r => ([.dat .bool r], [])
noncomputable def E_lw_eqIntS : Env := envOf []
noncomputable def Z_lw_eqIntS : Nat → Nat → List Nat := fun _ _ => []
noncomputable def O_lw_eqIntS : List (Nat × LD) := [(0, DL_lw_eqIntS_0)]
noncomputable def C_lw_eqIntS : Code := (f16.body).getD .skip
noncomputable def S_lw_eqIntSS_0 (k : (List (List (Int))) × (List (List (Int)))) (v : Int) : Tr ((Int) ⊕ ((Unit) ⊕ (Unit))) :=
  .t (decide (v < ((List.length k.1 : Nat) : Int)))
    (.g (inR v (List.length k.1)) <|
      .g (inR v (List.length k.2)) <|
      .c (Bool) (F_lw_eqIntS (List.getD k.1 (Int.toNat v) ([] : List (Int))) (List.getD k.2 (Int.toNat v) ([] : List (Int)))) fun r4_ =>
      .t (!r4_)
        (.l (.inr (.inr ())))
        (.l (.inl (IntKind.wrap .i64 (v + (1 : Int))))))
    (.l (.inr (.inl ())))
noncomputable def L_lw_eqIntSS_0 (k : (List (List (Int))) × (List (List (Int)))) (v : Int) : Option ((Unit) ⊕ (Unit)) := iter (fun v => (S_lw_eqIntSS_0 k v).ev) v
noncomputable def DL_lw_eqIntSS_0 : LD where
  head := { acts := [], S := { slots := [0, 1, 5], sh := (.cons (.dat (.slice (.slice (.int .i64)))) (.cons (.dat (.slice (.slice (.int .i64)))) (.cons (.dat (.int .i64)) .nil))), obs := [] } }
  exits := [(0, { acts := [], S := { slots := [], sh := .nil, obs := [] } })]
  rets := { acts := [], S := { slots := [4], sh := (.cons (.dat .bool) .nil), obs := [] } }
  K := (List (List (Int))) × (List (List (Int)))
  V := Int
  R := (Unit) ⊕ (Unit)
  join := fun k v => ((k.1, (k.2, (v, ()))), ())
  sk := fun t => (t.1.1, t.1.2.1)
  sv := fun t => t.1.2.2.1
  step := S_lw_eqIntSS_0
  leaf := fun _ r => .s (Unit) (Unit) r (fun _ => .l (.exit 0 (mkSt ({ slots := [], sh := .nil, obs := [] }) ((), ())))) (fun _ => .l (.ret (mkSt ({ slots := [4], sh := (.cons (.dat .bool) .nil), obs := [] }) ((false, ()), ()))))
noncomputable def T_lw_eqIntSS (a1_ : List (List (Int))) (a2_ : List (List (Int))) : Tr (Bool) :=
  .t (((List.length a1_ : Nat) : Int) != ((List.length a2_ : Nat) : Int))
    (.l false)
    (.c ((Unit) ⊕ (Unit)) (L_lw_eqIntSS_0 (a1_, a2_) (0 : Int)) fun r6_ =>
      .s (Unit) (Unit) r6_
        (fun _ => .l true)
        (fun _ => .l false))
noncomputable def F_lw_eqIntSS (a1_ : List (List (Int))) (a2_ : List (List (Int))) : Option (Bool) := (T_lw_eqIntSS a1_ a2_).ev
noncomputable def A_lw_eqIntSS : Sh := (.cons (.dat (.slice (.slice (.int .i64)))) (.cons (.dat (.slice (.slice (.int .i64)))) .nil))
noncomputable def I_lw_eqIntSS : List (Nat × OSh) := []
noncomputable def K_lw_eqIntSS : RetK := { acts := [], res := [.tmp 4], sh := (.cons (.dat .bool) .nil), obs := [], pins := [] }
noncomputable def D_lw_eqIntSS : FD where
  A := A_lw_eqIntSS
  ins := I_lw_eqIntSS
  lend := []
  R := Bool
  F := fun x => F_lw_eqIntSS x.1.1 x.1.2.1
  emb := fun r => ([.dat .bool r], [])
noncomputable def E_lw_eqIntSS : Env := envOf [(16, D_lw_eqIntS)]
noncomputable def Z_lw_eqIntSS : Nat → Nat → List Nat := fun _ _ => []
noncomputable def O_lw_eqIntSS : List (Nat × LD) := [(0, DL_lw_eqIntSS_0)]
noncomputable def C_lw_eqIntSS : Code := (f17.body).getD .skip
noncomputable def T_lw_FnExactProvesApart (a1_ : List (List (Int))) (a2_ : List (List (Int))) (a3_ : Int) : Tr (Bool) :=
  .c (Int) (F_lw_szIntSS a1_ (1048576 : Int)) fun r1_ =>
  .t (decide (r1_ < (0 : Int)))
    (.l true)
    (.c (Int) (F_lw_szIntSS a2_ r1_) fun r2_ =>
      .t (decide (r2_ < (0 : Int)))
        (.l true)
        (.c (List (List (Int))) (F_lw_toIntSS a1_) fun r3_ =>
          .c (List (List (Int))) (F_lw_toIntSS a2_) fun r4_ =>
          .c ((Bool) × (Bool)) (F_sp_ProvesApart r3_ r4_ a3_) fun r5_ =>
          .c (List (List (Int))) (F_lw_toIntSS a1_) fun r6_ =>
          .c (List (List (Int))) (F_lw_toIntSS a2_) fun r7_ =>
          .c ((Bool) × (Bool)) (F_im_ProvesApart r6_ r7_ a3_) fun r8_ =>
          .t (!(r8_.1 == r5_.1))
            (.l false)
            (.t (!(r8_.2 == r5_.2))
                (.l false)
                (.c (List (List (Int))) (F_lw_toIntSS a1_) fun r9_ =>
                  .c (Bool) (F_lw_eqIntSS r6_ r9_) fun r10_ =>
                  .t (!r10_)
                    (.l false)
                    (.c (List (List (Int))) (F_lw_toIntSS a2_) fun r11_ =>
                      .c (Bool) (F_lw_eqIntSS r7_ r11_) fun r12_ =>
                      .t (!r12_)
                        (.l false)
                        (.l true))))))
noncomputable def F_lw_FnExactProvesApart (a1_ : List (List (Int))) (a2_ : List (List (Int))) (a3_ : Int) : Option (Bool) := (T_lw_FnExactProvesApart a1_ a2_ a3_).ev
noncomputable def A_lw_FnExactProvesApart : Sh := (.cons (.dat (.slice (.slice (.int .i64)))) (.cons (.dat (.slice (.slice (.int .i64)))) (.cons (.dat (.int .i64)) .nil)))
noncomputable def I_lw_FnExactProvesApart : List (Nat × OSh) := []
noncomputable def K_lw_FnExactProvesApart : RetK := { acts := [], res := [.tmp 6], sh := (.cons (.dat .bool) .nil), obs := [], pins := [] }
noncomputable def D_lw_FnExactProvesApart : FD where
  A := A_lw_FnExactProvesApart
  ins := I_lw_FnExactProvesApart
  lend := []
  R := Bool
  F := fun x => F_lw_FnExactProvesApart x.1.1 x.1.2.1 x.1.2.2.1
  emb := fun r => ([.dat .bool r], [])
noncomputable def E_lw_FnExactProvesApart : Env := envOf [(12, D_lw_szIntSS), (14, D_lw_toIntSS), (32, D_sp_ProvesApart), (33, D_im_ProvesApart), (17, D_lw_eqIntSS)]
noncomputable def Z_lw_FnExactProvesApart : Nat → Nat → List Nat := fun _ _ => []
noncomputable def O_lw_FnExactProvesApart : List (Nat × LD) := []
noncomputable def C_lw_FnExactProvesApart : Code := (f7.body).getD .skip
end Go.Proofs.Ytlemejhffpkbkaa
