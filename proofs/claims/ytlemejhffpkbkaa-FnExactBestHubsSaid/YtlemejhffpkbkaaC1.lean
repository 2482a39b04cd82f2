import Derived.Test.YtlemejhffpkbkaaB37
import Derived.Test.YtlemejhffpkbkaaProg
namespace Go.Proofs.Ytlemejhffpkbkaa
open Go.Proofs.Try
noncomputable def tabl : List (Nat × TD) := [(1, .other), (3, .sc (.int .i64)), (4, .sc .bool), (22, .sl 24 (.slice (.int .i64)) 24), (24, .sl 3 (.int .i64) 8), (111, .sc (.int .u64))]
noncomputable def tt : Nat → TD := fun i => match look tabl i with
  | some d => d
  | none => .no
noncomputable def T_lw_szIntS (a1_ : List (Int)) (a2_ : Int) : Tr (Int) :=
  .t (decide ((IntKind.wrap .i64 (a2_ - ((List.length a1_ : Nat) : Int))) < (0 : Int)))
    (.l (-1 : Int))
    (.l (IntKind.wrap .i64 (a2_ - ((List.length a1_ : Nat) : Int))))
noncomputable def F_lw_szIntS (a1_ : List (Int)) (a2_ : Int) : Option (Int) := (T_lw_szIntS a1_ a2_).ev
noncomputable def A_lw_szIntS : Sh := (.cons (.dat (.slice (.int .i64))) (.cons (.dat (.int .i64)) .nil))
noncomputable def I_lw_szIntS : List (Nat × OSh) := []
noncomputable def K_lw_szIntS : RetK := { acts := [], res := [.tmp 4], sh := (.cons (.dat (.int .i64)) .nil), obs := [], pins := [] }
noncomputable def D_lw_szIntS : FD where
  A := A_lw_szIntS
  ins := I_lw_szIntS
  lend := []
  R := Int
  F := fun x => F_lw_szIntS x.1.1 x.1.2.1
  emb := fun r => ([.dat (.int .i64) r], [])
noncomputable def E_lw_szIntS : Env := envOf []
noncomputable def Z_lw_szIntS : Nat → Nat → List Nat := fun _ _ => []
noncomputable def O_lw_szIntS : List (Nat × LD) := []
noncomputable def C_lw_szIntS : Code := (f62.body).getD .skip
noncomputable def S_lw_szIntSS_0 (k : List (List (Int))) (v : (Int) × (Int)) : Tr (((Int) × (Int)) ⊕ ((Int) ⊕ (Unit))) :=
  .t (decide (v.2 < ((List.length k : Nat) : Int)))
    (.g (inR v.2 (List.length k)) <|
      .c (Int) (F_lw_szIntS (List.getD k (Int.toNat v.2) ([] : List (Int))) v.1) fun r4_ =>
      .t (decide (r4_ < (0 : Int)))
        (.l (.inr (.inr ())))
        (.l (.inl (r4_, (IntKind.wrap .i64 (v.2 + (1 : Int)))))))
    (.l (.inr (.inl v.1)))
noncomputable def L_lw_szIntSS_0 (k : List (List (Int))) (v : (Int) × (Int)) : Option ((Int) ⊕ (Unit)) := iter (fun v => (S_lw_szIntSS_0 k v).ev) v
noncomputable def DL_lw_szIntSS_0 : LD where
  head := { acts := [], S := { slots := [0, 1, 5], sh := (.cons (.dat (.slice (.slice (.int .i64)))) (.cons (.dat (.int .i64)) (.cons (.dat (.int .i64)) .nil))), obs := [] } }
  exits := [(0, { acts := [], S := { slots := [1], sh := (.cons (.dat (.int .i64)) .nil), obs := [] } })]
  rets := { acts := [], S := { slots := [4], sh := (.cons (.dat (.int .i64)) .nil), obs := [] } }
  K := List (List (Int))
  V := (Int) × (Int)
  R := (Int) ⊕ (Unit)
  join := fun k v => ((k, (v.1, (v.2, ()))), ())
  sk := fun t => t.1.1
  sv := fun t => (t.1.2.1, t.1.2.2.1)
  step := S_lw_szIntSS_0
  leaf := fun _ r => .s (Int) (Unit) r (fun a => .l (.exit 0 (mkSt ({ slots := [1], sh := (.cons (.dat (.int .i64)) .nil), obs := [] }) ((a, ()), ())))) (fun _ => .l (.ret (mkSt ({ slots := [4], sh := (.cons (.dat (.int .i64)) .nil), obs := [] }) (((-1 : Int), ()), ()))))
noncomputable def T_lw_szIntSS (a1_ : List (List (Int))) (a2_ : Int) : Tr (Int) :=
  .t (decide ((IntKind.wrap .i64 (a2_ - ((List.length a1_ : Nat) : Int))) < (0 : Int)))
    (.l (-1 : Int))
    (.c ((Int) ⊕ (Unit)) (L_lw_szIntSS_0 a1_ ((IntKind.wrap .i64 (a2_ - ((List.length a1_ : Nat) : Int))), (0 : Int))) fun r7_ =>
      .s (Int) (Unit) r7_
        (fun r8_ => .l r8_)
        (fun _ => .l (-1 : Int)))
noncomputable def F_lw_szIntSS (a1_ : List (List (Int))) (a2_ : Int) : Option (Int) := (T_lw_szIntSS a1_ a2_).ev
noncomputable def A_lw_szIntSS : Sh := (.cons (.dat (.slice (.slice (.int .i64)))) (.cons (.dat (.int .i64)) .nil))
noncomputable def I_lw_szIntSS : List (Nat × OSh) := []
noncomputable def K_lw_szIntSS : RetK := { acts := [], res := [.tmp 4], sh := (.cons (.dat (.int .i64)) .nil), obs := [], pins := [] }
noncomputable def D_lw_szIntSS : FD where
  A := A_lw_szIntSS
  ins := I_lw_szIntSS
  lend := []
  R := Int
  F := fun x => F_lw_szIntSS x.1.1 x.1.2.1
  emb := fun r => ([.dat (.int .i64) r], [])
noncomputable def E_lw_szIntSS : Env := envOf [(62, D_lw_szIntS)]
noncomputable def Z_lw_szIntSS : Nat → Nat → List Nat := fun _ _ => []
noncomputable def O_lw_szIntSS : List (Nat × LD) := [(0, DL_lw_szIntSS_0)]
noncomputable def C_lw_szIntSS : Code := (f12.body).getD .skip
noncomputable def S_lw_toIntS_0 (k : List (Int)) (v : (Int) × (List (Int))) : Tr (((Int) × (List (Int))) ⊕ (List (Int))) :=
  .t (decide (v.1 < ((List.length k : Nat) : Int)))
    (.g (inR v.1 (List.length k)) <|
      .g (inR v.1 (List.length v.2)) <|
      .g (decide ((Int.toNat v.1) < List.length v.2)) <|
      .l (.inl ((IntKind.wrap .i64 (v.1 + (1 : Int))), (List.set v.2 (Int.toNat v.1) (List.getD k (Int.toNat v.1) (0 : Int))))))
    (.l (.inr v.2))
noncomputable def L_lw_toIntS_0 (k : List (Int)) (v : (Int) × (List (Int))) : Option (List (Int)) := iter (fun v => (S_lw_toIntS_0 k v).ev) v
noncomputable def DL_lw_toIntS_0 : LD where
  head := { acts := [], S := { slots := [0, 3, 4], sh := (.cons (.dat (.slice (.int .i64))) (.cons (.arr 7) (.cons (.dat (.int .i64)) .nil))), obs := [(7, .arr 3 (.int .i64))] } }
  exits := [(0, { acts := [], S := { slots := [3], sh := (.cons (.arr 7) .nil), obs := [(7, .arr 3 (.int .i64))] } })]
  rets := { acts := [], S := { slots := [], sh := .nil, obs := [] } }
  K := List (Int)
  V := (Int) × (List (Int))
  R := List (Int)
  join := fun k v => ((k, ((), (v.1, ()))), (v.2, ()))
  sk := fun t => t.1.1
  sv := fun t => (t.1.2.2.1, t.2.1)
  step := S_lw_toIntS_0
  leaf := fun _ r => .l (.exit 0 (mkSt ({ slots := [3], sh := (.cons (.arr 7) .nil), obs := [(7, .arr 3 (.int .i64))] }) (((), ()), (r, ()))))
noncomputable def T_lw_toIntS (a1_ : List (Int)) : Tr (List (Int)) :=
  .g (decide ((0 : Int) ≤ ((List.length a1_ : Nat) : Int)) && decide (((List.length a1_ : Nat) : Int) ≤ ((List.length a1_ : Nat) : Int)) && decide (((8 : Nat) : Int) * ((List.length a1_ : Nat) : Int) ≤ 281474976710656)) <|
  .c (List (Int)) (L_lw_toIntS_0 a1_ ((0 : Int), (List.replicate (Int.toNat ((List.length a1_ : Nat) : Int)) (0 : Int)))) fun r5_ =>
  .l r5_
noncomputable def F_lw_toIntS (a1_ : List (Int)) : Option (List (Int)) := (T_lw_toIntS a1_).ev
noncomputable def A_lw_toIntS : Sh := (.cons (.dat (.slice (.int .i64))) .nil)
noncomputable def I_lw_toIntS : List (Nat × OSh) := []
noncomputable def K_lw_toIntS : RetK := { acts := [.ren 7 0], res := [.tmp 2], sh := (.cons (.arr 0) .nil), obs := [(0, .arr 3 (.int .i64))], pins := [] }
noncomputable def D_lw_toIntS : FD where
  A := A_lw_toIntS
  ins := I_lw_toIntS
  lend := []
  R := List (Int)
  F := fun x => F_lw_toIntS x.1.1
  emb := fun r => ([.arr 0], [(0, .arr 3 (.int .i64) r)])
noncomputable def E_lw_toIntS : Env := envOf []
noncomputable def Z_lw_toIntS : Nat → Nat → List Nat := fun _ _ => []
noncomputable def O_lw_toIntS : List (Nat × LD) := [(0, DL_lw_toIntS_0)]
noncomputable def C_lw_toIntS : Code := (f26.body).getD .skip
noncomputable def S_lw_toIntSS_0 (k : List (List (Int))) (v : (Int) × (List (List (Int)))) : Tr (((Int) × (List (List (Int)))) ⊕ (List (List (Int)))) :=
  .t (decide (v.1 < ((List.length k : Nat) : Int)))
    (.g (inR v.1 (List.length k)) <|
      .c (List (Int)) (F_lw_toIntS (List.getD k (Int.toNat v.1) ([] : List (Int)))) fun r4_ =>
      .g (inR v.1 (List.length v.2)) <|
      .g (decide ((Int.toNat v.1) < List.length v.2)) <|
      .l (.inl ((IntKind.wrap .i64 (v.1 + (1 : Int))), (List.set v.2 (Int.toNat v.1) r4_))))
    (.l (.inr v.2))
noncomputable def L_lw_toIntSS_0 (k : List (List (Int))) (v : (Int) × (List (List (Int)))) : Option (List (List (Int))) := iter (fun v => (S_lw_toIntSS_0 k v).ev) v
noncomputable def DL_lw_toIntSS_0 : LD where
  head := { acts := [], S := { slots := [0, 3, 4], sh := (.cons (.dat (.slice (.slice (.int .i64)))) (.cons (.arr 7) (.cons (.dat (.int .i64)) .nil))), obs := [(7, .rows 24 3 (.int .i64))] } }
  exits := [(0, { acts := [], S := { slots := [3], sh := (.cons (.arr 7) .nil), obs := [(7, .rows 24 3 (.int .i64))] } })]
  rets := { acts := [], S := { slots := [], sh := .nil, obs := [] } }
  K := List (List (Int))
  V := (Int) × (List (List (Int)))
  R := List (List (Int))
  join := fun k v => ((k, ((), (v.1, ()))), (v.2, ()))
  sk := fun t => t.1.1
  sv := fun t => (t.1.2.2.1, t.2.1)
  step := S_lw_toIntSS_0
  leaf := fun _ r => .l (.exit 0 (mkSt ({ slots := [3], sh := (.cons (.arr 7) .nil), obs := [(7, .rows 24 3 (.int .i64))] }) (((), ()), (r, ()))))
noncomputable def T_lw_toIntSS (a1_ : List (List (Int))) : Tr (List (List (Int))) :=
  .g (decide ((0 : Int) ≤ ((List.length a1_ : Nat) : Int)) && decide (((List.length a1_ : Nat) : Int) ≤ ((List.length a1_ : Nat) : Int)) && decide (((24 : Nat) : Int) * ((List.length a1_ : Nat) : Int) ≤ 281474976710656)) <|
  .c (List (List (Int))) (L_lw_toIntSS_0 a1_ ((0 : Int), (List.replicate (Int.toNat ((List.length a1_ : Nat) : Int)) ([] : List (Int))))) fun r6_ =>
  .l r6_
noncomputable def F_lw_toIntSS (a1_ : List (List (Int))) : Option (List (List (Int))) := (T_lw_toIntSS a1_).ev
noncomputable def A_lw_toIntSS : Sh := (.cons (.dat (.slice (.slice (.int .i64)))) .nil)
noncomputable def I_lw_toIntSS : List (Nat × OSh) := []
noncomputable def K_lw_toIntSS : RetK := { acts := [.ren 7 0], res := [.tmp 2], sh := (.cons (.arr 0) .nil), obs := [(0, .rows 24 3 (.int .i64))], pins := [] }
noncomputable def D_lw_toIntSS : FD where
  A := A_lw_toIntSS
  ins := I_lw_toIntSS
  lend := []
  R := List (List (Int))
  F := fun x => F_lw_toIntSS x.1.1
  emb := fun r => ([.arr 0], [(0, .rows 24 3 (.int .i64) r none)])
noncomputable def E_lw_toIntSS : Env := envOf [(26, D_lw_toIntS)]
noncomputable def Z_lw_toIntSS : Nat → Nat → List Nat := fun r i => match look [(1, [(2, [1000000])])] r with
  | some l => (look l i).getD []
  | none => []
noncomputable def O_lw_toIntSS : List (Nat × LD) := [(0, DL_lw_toIntSS_0)]
noncomputable def C_lw_toIntSS : Code := (f14.body).getD .skip
noncomputable def T_sp_l1In (a1_ : Int) (a2_ : Int) (a3_ : Int) : Tr (Bool) :=
  .t (decide (a2_ ≤ a1_))
    (.l (decide (a1_ ≤ a3_)))
    (.l false)
noncomputable def F_sp_l1In (a1_ : Int) (a2_ : Int) (a3_ : Int) : Option (Bool) := (T_sp_l1In a1_ a2_ a3_).ev
noncomputable def A_sp_l1In : Sh := (.cons (.dat (.int .i64)) (.cons (.dat (.int .i64)) (.cons (.dat (.int .i64)) .nil)))
noncomputable def I_sp_l1In : List (Nat × OSh) := []
noncomputable def K_sp_l1In : RetK := { acts := [], res := [.tmp 6], sh := (.cons (.dat .bool) .nil), obs := [], pins := [] }
noncomputable def D_sp_l1In : FD where
  A := A_sp_l1In
  ins := I_sp_l1In
  lend := []
  R := Bool
  F := fun x => F_sp_l1In x.1.1 x.1.2.1 x.1.2.2.1
  emb := fun r => ([.dat .bool r], [])
noncomputable def E_sp_l1In : Env := envOf []
noncomputable def Z_sp_l1In : Nat → Nat → List Nat := fun _ _ => []
noncomputable def O_sp_l1In : List (Nat × LD) := []
noncomputable def C_sp_l1In : Code := (f84.body).getD .skip
noncomputable def S_sp_l2Row_0 (k : (List (Int)) × ((Int) × (Int))) (v : Int) : Tr ((Int) ⊕ ((Unit) ⊕ (Unit))) :=
  .t (decide (v < ((List.length k.1 : Nat) : Int)))
    (.g (inR v (List.length k.1)) <|
      .c (Bool) (F_sp_l1In (List.getD k.1 (Int.toNat v) (0 : Int)) (0 : Int) k.2.2) fun r5_ =>
      .t (!r5_)
        (.l (.inr (.inr ())))
        (.l (.inl (IntKind.wrap .i64 (v + (1 : Int))))))
    (.l (.inr (.inl ())))
noncomputable def L_sp_l2Row_0 (k : (List (Int)) × ((Int) × (Int))) (v : Int) : Option ((Unit) ⊕ (Unit)) := iter (fun v => (S_sp_l2Row_0 k v).ev) v
noncomputable def DL_sp_l2Row_0 : LD where
  head := { acts := [], S := { slots := [0, 1, 2, 7], sh := (.cons (.dat (.slice (.int .i64))) (.cons (.dat (.int .i64)) (.cons (.dat (.int .i64)) (.cons (.dat (.int .i64)) .nil)))), obs := [] } }
  exits := [(0, { acts := [], S := { slots := [0, 1], sh := (.cons (.dat (.slice (.int .i64))) (.cons (.dat (.int .i64)) .nil)), obs := [] } })]
  rets := { acts := [], S := { slots := [6], sh := (.cons (.dat .bool) .nil), obs := [] } }
  K := (List (Int)) × ((Int) × (Int))
  V := Int
  R := (Unit) ⊕ (Unit)
  join := fun k v => ((k.1, (k.2.1, (k.2.2, (v, ())))), ())
  sk := fun t => (t.1.1, (t.1.2.1, t.1.2.2.1))
  sv := fun t => t.1.2.2.2.1
  step := S_sp_l2Row_0
  leaf := fun k r => .s (Unit) (Unit) r (fun _ => .l (.exit 0 (mkSt ({ slots := [0, 1], sh := (.cons (.dat (.slice (.int .i64))) (.cons (.dat (.int .i64)) .nil)), obs := [] }) ((k.1, (k.2.1, ())), ())))) (fun _ => .l (.ret (mkSt ({ slots := [6], sh := (.cons (.dat .bool) .nil), obs := [] }) ((false, ()), ()))))
noncomputable def T_sp_l2Row (a1_ : List (Int)) (a2_ : Int) (a3_ : Int) : Tr (Bool) :=
  .c ((Unit) ⊕ (Unit)) (L_sp_l2Row_0 (a1_, (a2_, a3_)) (0 : Int)) fun r9_ =>
  .s (Unit) (Unit) r9_
    (fun _ => .l (((List.length a1_ : Nat) : Int) == a2_))
    (fun _ => .l false)
noncomputable def F_sp_l2Row (a1_ : List (Int)) (a2_ : Int) (a3_ : Int) : Option (Bool) := (T_sp_l2Row a1_ a2_ a3_).ev
noncomputable def A_sp_l2Row : Sh := (.cons (.dat (.slice (.int .i64))) (.cons (.dat (.int .i64)) (.cons (.dat (.int .i64)) .nil)))
noncomputable def I_sp_l2Row : List (Nat × OSh) := []
noncomputable def K_sp_l2Row : RetK := { acts := [], res := [.tmp 6], sh := (.cons (.dat .bool) .nil), obs := [], pins := [] }
noncomputable def D_sp_l2Row : FD where
  A := A_sp_l2Row
  ins := I_sp_l2Row
  lend := []
  R := Bool
  F := fun x => F_sp_l2Row x.1.1 x.1.2.1 x.1.2.2.1
  emb := fun r => ([.dat .bool r], [])
noncomputable def E_sp_l2Row : Env := envOf [(84, D_sp_l1In)]
noncomputable def Z_sp_l2Row : Nat → Nat → List Nat := fun _ _ => []
noncomputable def O_sp_l2Row : List (Nat × LD) := [(0, DL_sp_l2Row_0)]
noncomputable def C_sp_l2Row : Code := (f77.body).getD .skip
noncomputable def S_sp_l11Ground_2 (k : (List (List (Int))) × ((Int) × (Int))) (v : Int) : Tr ((Int) ⊕ ((Unit) ⊕ (Unit))) :=
  .t (decide (v < k.2.2))
    (.g (inR k.2.2 (List.length k.1)) <|
      .g (inR v (List.length (List.getD k.1 (Int.toNat k.2.2) ([] : List (Int))))) <|
      .g (inR v (List.length k.1)) <|
      .g (inR k.2.2 (List.length (List.getD k.1 (Int.toNat v) ([] : List (Int))))) <|
      .t ((List.getD (List.getD k.1 (Int.toNat k.2.2) ([] : List (Int))) (Int.toNat v) (0 : Int)) != (List.getD (List.getD k.1 (Int.toNat v) ([] : List (Int))) (Int.toNat k.2.2) (0 : Int)))
        (.l (.inr (.inr ())))
        (.l (.inl (IntKind.wrap .i64 (v + (1 : Int))))))
    (.l (.inr (.inl ())))
noncomputable def L_sp_l11Ground_2 (k : (List (List (Int))) × ((Int) × (Int))) (v : Int) : Option ((Unit) ⊕ (Unit)) := iter (fun v => (S_sp_l11Ground_2 k v).ev) v
noncomputable def DL_sp_l11Ground_2 : LD where
  head := { acts := [], S := { slots := [0, 3, 4, 5], sh := (.cons (.dat (.slice (.slice (.int .i64)))) (.cons (.dat (.int .i64)) (.cons (.dat (.int .i64)) (.cons (.dat (.int .i64)) .nil)))), obs := [] } }
  exits := [(2, { acts := [], S := { slots := [0, 3, 4], sh := (.cons (.dat (.slice (.slice (.int .i64)))) (.cons (.dat (.int .i64)) (.cons (.dat (.int .i64)) .nil))), obs := [] } })]
  rets := { acts := [], S := { slots := [2], sh := (.cons (.dat .bool) .nil), obs := [] } }
  K := (List (List (Int))) × ((Int) × (Int))
  V := Int
  R := (Unit) ⊕ (Unit)
  join := fun k v => ((k.1, (k.2.1, (k.2.2, (v, ())))), ())
  sk := fun t => (t.1.1, (t.1.2.1, t.1.2.2.1))
  sv := fun t => t.1.2.2.2.1
  step := S_sp_l11Ground_2
  leaf := fun k r => .s (Unit) (Unit) r (fun _ => .l (.exit 2 (mkSt ({ slots := [0, 3, 4], sh := (.cons (.dat (.slice (.slice (.int .i64)))) (.cons (.dat (.int .i64)) (.cons (.dat (.int .i64)) .nil))), obs := [] }) ((k.1, (k.2.1, (k.2.2, ()))), ())))) (fun _ => .l (.ret (mkSt ({ slots := [2], sh := (.cons (.dat .bool) .nil), obs := [] }) ((false, ()), ()))))
noncomputable def S_sp_l11Ground_0 (k : (List (List (Int))) × (Int)) (v : Int) : Tr ((Int) ⊕ ((Unit) ⊕ (Unit))) :=
  .t (decide (v < k.2))
    (.g (inR v (List.length k.1)) <|
      .c (Bool) (F_sp_l2Row (List.getD k.1 (Int.toNat v) ([] : List (Int))) k.2 (99 : Int)) fun r4_ =>
      .t (!r4_)
        (.l (.inr (.inr ())))
        (.g (inR v (List.length k.1)) <|
          .g (inR v (List.length (List.getD k.1 (Int.toNat v) ([] : List (Int))))) <|
          .t ((List.getD (List.getD k.1 (Int.toNat v) ([] : List (Int))) (Int.toNat v) (0 : Int)) != (0 : Int))
            (.l (.inr (.inr ())))
            (.c ((Unit) ⊕ (Unit)) (L_sp_l11Ground_2 (k.1, (k.2, v)) (0 : Int)) fun r13_ =>
              .s (Unit) (Unit) r13_
                (fun _ => .l (.inl (IntKind.wrap .i64 (v + (1 : Int)))))
                (fun _ => .l (.inr (.inr ()))))))
    (.l (.inr (.inl ())))
noncomputable def L_sp_l11Ground_0 (k : (List (List (Int))) × (Int)) (v : Int) : Option ((Unit) ⊕ (Unit)) := iter (fun v => (S_sp_l11Ground_0 k v).ev) v
noncomputable def DL_sp_l11Ground_0 : LD where
  head := { acts := [], S := { slots := [0, 3, 4], sh := (.cons (.dat (.slice (.slice (.int .i64)))) (.cons (.dat (.int .i64)) (.cons (.dat (.int .i64)) .nil))), obs := [] } }
  exits := [(0, { acts := [], S := { slots := [3], sh := (.cons (.dat (.int .i64)) .nil), obs := [] } })]
  rets := { acts := [], S := { slots := [2], sh := (.cons (.dat .bool) .nil), obs := [] } }
  K := (List (List (Int))) × (Int)
  V := Int
  R := (Unit) ⊕ (Unit)
  join := fun k v => ((k.1, (k.2, (v, ()))), ())
  sk := fun t => (t.1.1, t.1.2.1)
  sv := fun t => t.1.2.2.1
  step := S_sp_l11Ground_0
  leaf := fun k r => .s (Unit) (Unit) r (fun _ => .l (.exit 0 (mkSt ({ slots := [3], sh := (.cons (.dat (.int .i64)) .nil), obs := [] }) ((k.2, ()), ())))) (fun _ => .l (.ret (mkSt ({ slots := [2], sh := (.cons (.dat .bool) .nil), obs := [] }) ((false, ()), ()))))
noncomputable def T_sp_l11Ground (a1_ : List (List (Int))) : Tr (Bool) :=
  .c ((Unit) ⊕ (Unit)) (L_sp_l11Ground_0 (a1_, ((List.length a1_ : Nat) : Int)) (0 : Int)) fun r18_ =>
  .s (Unit) (Unit) r18_
    (fun _ => .l (decide (((List.length a1_ : Nat) : Int) ≤ (7 : Int))))
    (fun _ => .l false)
noncomputable def F_sp_l11Ground (a1_ : List (List (Int))) : Option (Bool) := (T_sp_l11Ground a1_).ev
noncomputable def A_sp_l11Ground : Sh := (.cons (.dat (.slice (.slice (.int .i64)))) .nil)
noncomputable def I_sp_l11Ground : List (Nat × OSh) := []
noncomputable def K_sp_l11Ground : RetK := { acts := [], res := [.tmp 2], sh := (.cons (.dat .bool) .nil), obs := [], pins := [] }
noncomputable def D_sp_l11Ground : FD where
  A := A_sp_l11Ground
  ins := I_sp_l11Ground
  lend := []
  R := Bool
  F := fun x => F_sp_l11Ground x.1.1
  emb := fun r => ([.dat .bool r], [])
noncomputable def E_sp_l11Ground : Env := envOf [(77, D_sp_l2Row)]
noncomputable def Z_sp_l11Ground : Nat → Nat → List Nat := fun _ _ => []
noncomputable def O_sp_l11Ground : List (Nat × LD) := [(2, DL_sp_l11Ground_2), (0, DL_sp_l11Ground_0)]
noncomputable def C_sp_l11Ground : Code := (f95.body).getD .skip
noncomputable def T_sp_l11Small (a1_ : List (List (Int))) : Tr (Bool) :=
  .c (Bool) (F_sp_l11Ground a1_) fun r1_ =>
  .t r1_
    (.l (decide (((List.length a1_ : Nat) : Int) ≤ (5 : Int))))
    (.l false)
noncomputable def F_sp_l11Small (a1_ : List (List (Int))) : Option (Bool) := (T_sp_l11Small a1_).ev
noncomputable def A_sp_l11Small : Sh := (.cons (.dat (.slice (.slice (.int .i64)))) .nil)
noncomputable def I_sp_l11Small : List (Nat × OSh) := []
noncomputable def K_sp_l11Small : RetK := { acts := [], res := [.tmp 2], sh := (.cons (.dat .bool) .nil), obs := [], pins := [] }
noncomputable def D_sp_l11Small : FD where
  A := A_sp_l11Small
  ins := I_sp_l11Small
  lend := []
  R := Bool
  F := fun x => F_sp_l11Small x.1.1
  emb := fun r => ([.dat .bool r], [])
noncomputable def E_sp_l11Small : Env := envOf [(95, D_sp_l11Ground)]
noncomputable def Z_sp_l11Small : Nat → Nat → List Nat := fun _ _ => []
noncomputable def O_sp_l11Small : List (Nat × LD) := []
noncomputable def C_sp_l11Small : Code := (f127.body).getD .skip
noncomputable def S_sp_l11Flows_0 (k : (List (List (Int))) × ((List (List (Int))) × (Int))) (v : Int) : Tr ((Int) ⊕ ((Unit) ⊕ (Unit))) :=
  .t (decide (v < ((List.length k.2.1 : Nat) : Int)))
    (.g (inR v (List.length k.2.1)) <|
      .c (Bool) (F_sp_l2Row (List.getD k.2.1 (Int.toNat v) ([] : List (Int))) ((List.length k.1 : Nat) : Int) (99 : Int)) fun r5_ =>
      .t (!r5_)
        (.l (.inr (.inr ())))
        (.l (.inl (IntKind.wrap .i64 (v + (1 : Int))))))
    (.l (.inr (.inl ())))
noncomputable def L_sp_l11Flows_0 (k : (List (List (Int))) × ((List (List (Int))) × (Int))) (v : Int) : Option ((Unit) ⊕ (Unit)) := iter (fun v => (S_sp_l11Flows_0 k v).ev) v
noncomputable def DL_sp_l11Flows_0 : LD where
  head := { acts := [], S := { slots := [0, 1, 2, 7], sh := (.cons (.dat (.slice (.slice (.int .i64)))) (.cons (.dat (.slice (.slice (.int .i64)))) (.cons (.dat (.int .i64)) (.cons (.dat (.int .i64)) .nil)))), obs := [] } }
  exits := [(0, { acts := [], S := { slots := [0, 1, 2], sh := (.cons (.dat (.slice (.slice (.int .i64)))) (.cons (.dat (.slice (.slice (.int .i64)))) (.cons (.dat (.int .i64)) .nil))), obs := [] } })]
  rets := { acts := [], S := { slots := [6], sh := (.cons (.dat .bool) .nil), obs := [] } }
  K := (List (List (Int))) × ((List (List (Int))) × (Int))
  V := Int
  R := (Unit) ⊕ (Unit)
  join := fun k v => ((k.1, (k.2.1, (k.2.2, (v, ())))), ())
  sk := fun t => (t.1.1, (t.1.2.1, t.1.2.2.1))
  sv := fun t => t.1.2.2.2.1
  step := S_sp_l11Flows_0
  leaf := fun k r => .s (Unit) (Unit) r (fun _ => .l (.exit 0 (mkSt ({ slots := [0, 1, 2], sh := (.cons (.dat (.slice (.slice (.int .i64)))) (.cons (.dat (.slice (.slice (.int .i64)))) (.cons (.dat (.int .i64)) .nil))), obs := [] }) ((k.1, (k.2.1, (k.2.2, ()))), ())))) (fun _ => .l (.ret (mkSt ({ slots := [6], sh := (.cons (.dat .bool) .nil), obs := [] }) ((false, ()), ()))))
noncomputable def T_sp_l11Flows (a1_ : List (List (Int))) (a2_ : List (List (Int))) (a3_ : Int) : Tr (Bool) :=
  .c ((Unit) ⊕ (Unit)) (L_sp_l11Flows_0 (a1_, (a2_, a3_)) (0 : Int)) fun r10_ =>
  .s (Unit) (Unit) r10_
    (fun _ => .c (Bool) (F_sp_l11Small a1_) fun r13_ =>
      .t r13_
        (.t (((List.length a2_ : Nat) : Int) == ((List.length a1_ : Nat) : Int))
            (.c (Bool) (F_sp_l1In a3_ (0 : Int) (10 : Int)) fun r14_ =>
              .l r14_)
            (.l false))
        (.l false))
    (fun _ => .l false)
noncomputable def F_sp_l11Flows (a1_ : List (List (Int))) (a2_ : List (List (Int))) (a3_ : Int) : Option (Bool) := (T_sp_l11Flows a1_ a2_ a3_).ev
noncomputable def A_sp_l11Flows : Sh := (.cons (.dat (.slice (.slice (.int .i64)))) (.cons (.dat (.slice (.slice (.int .i64)))) (.cons (.dat (.int .i64)) .nil)))
noncomputable def I_sp_l11Flows : List (Nat × OSh) := []
noncomputable def K_sp_l11Flows : RetK := { acts := [], res := [.tmp 6], sh := (.cons (.dat .bool) .nil), obs := [], pins := [] }
noncomputable def D_sp_l11Flows : FD where
  A := A_sp_l11Flows
  ins := I_sp_l11Flows
  lend := []
  R := Bool
  F := fun x => F_sp_l11Flows x.1.1 x.1.2.1 x.1.2.2.1
  emb := fun r => ([.dat .bool r], [])
noncomputable def E_sp_l11Flows : Env := envOf [(77, D_sp_l2Row), (127, D_sp_l11Small), (84, D_sp_l1In)]
noncomputable def Z_sp_l11Flows : Nat → Nat → List Nat := fun _ _ => []
noncomputable def O_sp_l11Flows : List (Nat × LD) := [(0, DL_sp_l11Flows_0)]
noncomputable def C_sp_l11Flows : Code := (f83.body).getD .skip
noncomputable def T_sp_l1Own (a1_ : List (Int)) : Tr (List (Int)) :=
  .g (decide ((List.length ([] : List (Int)) + List.length a1_) * 8 ≤ 140737488355328)) <|
  .l (([] : List (Int)) ++ a1_)
noncomputable def F_sp_l1Own (a1_ : List (Int)) : Option (List (Int)) := (T_sp_l1Own a1_).ev
noncomputable def A_sp_l1Own : Sh := (.cons (.dat (.slice (.int .i64))) .nil)
noncomputable def I_sp_l1Own : List (Nat × OSh) := []
noncomputable def K_sp_l1Own : RetK := { acts := [.ren 3 0], res := [.tmp 2], sh := (.cons (.arr 0) .nil), obs := [(0, .arr 3 (.int .i64))], pins := [] }
noncomputable def D_sp_l1Own : FD where
  A := A_sp_l1Own
  ins := I_sp_l1Own
  lend := []
  R := List (Int)
  F := fun x => F_sp_l1Own x.1.1
  emb := fun r => ([.arr 0], [(0, .arr 3 (.int .i64) r)])
noncomputable def E_sp_l1Own : Env := envOf []
noncomputable def Z_sp_l1Own : Nat → Nat → List Nat := fun _ _ => []
noncomputable def O_sp_l1Own : List (Nat × LD) := []
noncomputable def C_sp_l1Own : Code := (f142.body).getD .skip
noncomputable def S_sp_l1Put_0 (k : (List (Int)) × (Int)) (v : Int) : Tr ((Int) ⊕ (Int)) :=
  .t (decide (v < ((List.length k.1 : Nat) : Int)))
    (.g (inR v (List.length k.1)) <|
      .t (decide ((List.getD k.1 (Int.toNat v) (0 : Int)) < k.2))
        (.l (.inl (IntKind.wrap .i64 (v + (1 : Int)))))
        (.l (.inr v)))
    (.l (.inr v))
noncomputable def L_sp_l1Put_0 (k : (List (Int)) × (Int)) (v : Int) : Option (Int) := iter (fun v => (S_sp_l1Put_0 k v).ev) v
noncomputable def DL_sp_l1Put_0 : LD where
  head := { acts := [], S := { slots := [0, 1, 5], sh := (.cons (.dat (.slice (.int .i64))) (.cons (.dat (.int .i64)) (.cons (.dat (.int .i64)) .nil))), obs := [] } }
  exits := [(0, { acts := [], S := { slots := [0, 1, 5], sh := (.cons (.dat (.slice (.int .i64))) (.cons (.dat (.int .i64)) (.cons (.dat (.int .i64)) .nil))), obs := [] } })]
  rets := { acts := [], S := { slots := [], sh := .nil, obs := [] } }
  K := (List (Int)) × (Int)
  V := Int
  R := Int
  join := fun k v => ((k.1, (k.2, (v, ()))), ())
  sk := fun t => (t.1.1, t.1.2.1)
  sv := fun t => t.1.2.2.1
  step := S_sp_l1Put_0
  leaf := fun k r => .l (.exit 0 (mkSt ({ slots := [0, 1, 5], sh := (.cons (.dat (.slice (.int .i64))) (.cons (.dat (.int .i64)) (.cons (.dat (.int .i64)) .nil))), obs := [] }) ((k.1, (k.2, (r, ()))), ())))
noncomputable def T_sp_l1Put (a1_ : List (Int)) (a2_ : Int) : Tr (List (Int)) :=
  .c (Int) (L_sp_l1Put_0 (a1_, a2_) (0 : Int)) fun r7_ =>
  .t (decide (r7_ < ((List.length a1_ : Nat) : Int)))
    (.g (inR r7_ (List.length a1_)) <|
      .t ((List.getD a1_ (Int.toNat r7_) (0 : Int)) == a2_)
        (.l a1_)
        (.g (decide ((0 : Int) ≤ r7_) && decide (r7_ ≤ ((List.length a1_ : Nat) : Int))) <|
          .g (decide ((List.length ([] : List (Int)) + List.length (List.drop 0 (List.take (Int.toNat r7_) a1_))) * 8 ≤ 140737488355328)) <|
          .g (decide ((List.length (([] : List (Int)) ++ (List.drop 0 (List.take (Int.toNat r7_) a1_))) + List.length ([a2_] : List (Int))) * 8 ≤ 140737488355328)) <|
          .g (decide ((0 : Int) ≤ r7_) && decide (r7_ ≤ ((List.length a1_ : Nat) : Int))) <|
          .g (decide ((List.length ((([] : List (Int)) ++ (List.drop 0 (List.take (Int.toNat r7_) a1_))) ++ ([a2_] : List (Int))) + List.length (List.drop (Int.toNat r7_) (List.take (List.length a1_) a1_))) * 8 ≤ 140737488355328)) <|
          .l (((([] : List (Int)) ++ (List.drop 0 (List.take (Int.toNat r7_) a1_))) ++ ([a2_] : List (Int))) ++ (List.drop (Int.toNat r7_) (List.take (List.length a1_) a1_)))))
    (.g (decide ((0 : Int) ≤ r7_) && decide (r7_ ≤ ((List.length a1_ : Nat) : Int))) <|
      .g (decide ((List.length ([] : List (Int)) + List.length (List.drop 0 (List.take (Int.toNat r7_) a1_))) * 8 ≤ 140737488355328)) <|
      .g (decide ((List.length (([] : List (Int)) ++ (List.drop 0 (List.take (Int.toNat r7_) a1_))) + List.length ([a2_] : List (Int))) * 8 ≤ 140737488355328)) <|
      .g (decide ((0 : Int) ≤ r7_) && decide (r7_ ≤ ((List.length a1_ : Nat) : Int))) <|
      .g (decide ((List.length ((([] : List (Int)) ++ (List.drop 0 (List.take (Int.toNat r7_) a1_))) ++ ([a2_] : List (Int))) + List.length (List.drop (Int.toNat r7_) (List.take (List.length a1_) a1_))) * 8 ≤ 140737488355328)) <|
      .l (((([] : List (Int)) ++ (List.drop 0 (List.take (Int.toNat r7_) a1_))) ++ ([a2_] : List (Int))) ++ (List.drop (Int.toNat r7_) (List.take (List.length a1_) a1_))))
noncomputable def F_sp_l1Put (a1_ : List (Int)) (a2_ : Int) : Option (List (Int)) := (T_sp_l1Put a1_ a2_).ev
noncomputable def A_sp_l1Put : Sh := (.cons (.dat (.slice (.int .i64))) (.cons (.dat (.int .i64)) .nil))
noncomputable def I_sp_l1Put : List (Nat × OSh) := []
noncomputable def K_sp_l1Put : RetK := { acts := [.fz 33], res := [.tmp 4], sh := (.cons (.dat (.slice (.int .i64))) .nil), obs := [], pins := [] }
noncomputable def D_sp_l1Put : FD where
  A := A_sp_l1Put
  ins := I_sp_l1Put
  lend := []
  R := List (Int)
  F := fun x => F_sp_l1Put x.1.1 x.1.2.1
  emb := fun r => ([.dat (.slice (.int .i64)) r], [])
noncomputable def E_sp_l1Put : Env := envOf []
noncomputable def Z_sp_l1Put : Nat → Nat → List Nat := fun _ _ => []
noncomputable def O_sp_l1Put : List (Nat × LD) := [(0, DL_sp_l1Put_0)]
noncomputable def C_sp_l1Put : Code := (f143.body).getD .skip
noncomputable def S_sp_l11Hubs_0 (k : (List (List (Int))) × (List (Int))) (v : Int) : Tr ((Int) ⊕ ((Unit) ⊕ (Unit))) :=
  .t (decide (v < ((List.length k.2 : Nat) : Int)))
    (.g (inR v (List.length k.2)) <|
      .c (Bool) (F_sp_l1In (List.getD k.2 (Int.toNat v) (0 : Int)) (0 : Int) (IntKind.wrap .i64 (((List.length k.2 : Nat) : Int) - (1 : Int)))) fun r4_ =>
      .t (!r4_)
        (.l (.inr (.inr ())))
        (.l (.inl (IntKind.wrap .i64 (v + (1 : Int))))))
    (.l (.inr (.inl ())))
noncomputable def L_sp_l11Hubs_0 (k : (List (List (Int))) × (List (Int))) (v : Int) : Option ((Unit) ⊕ (Unit)) := iter (fun v => (S_sp_l11Hubs_0 k v).ev) v
noncomputable def DL_sp_l11Hubs_0 : LD where
  head := { acts := [], S := { slots := [0, 1, 5], sh := (.cons (.dat (.slice (.slice (.int .i64)))) (.cons (.dat (.slice (.int .i64))) (.cons (.dat (.int .i64)) .nil))), obs := [] } }
  exits := [(0, { acts := [], S := { slots := [0, 1], sh := (.cons (.dat (.slice (.slice (.int .i64)))) (.cons (.dat (.slice (.int .i64))) .nil)), obs := [] } })]
  rets := { acts := [], S := { slots := [4], sh := (.cons (.dat .bool) .nil), obs := [] } }
  K := (List (List (Int))) × (List (Int))
  V := Int
  R := (Unit) ⊕ (Unit)
  join := fun k v => ((k.1, (k.2, (v, ()))), ())
  sk := fun t => (t.1.1, t.1.2.1)
  sv := fun t => t.1.2.2.1
  step := S_sp_l11Hubs_0
  leaf := fun k r => .s (Unit) (Unit) r (fun _ => .l (.exit 0 (mkSt ({ slots := [0, 1], sh := (.cons (.dat (.slice (.slice (.int .i64)))) (.cons (.dat (.slice (.int .i64))) .nil)), obs := [] }) ((k.1, (k.2, ())), ())))) (fun _ => .l (.ret (mkSt ({ slots := [4], sh := (.cons (.dat .bool) .nil), obs := [] }) ((false, ()), ()))))
noncomputable def S_sp_l11Hubs_2 (k : (List (List (Int))) × (List (Int))) (v : Int) : Tr ((Int) ⊕ ((Unit) ⊕ (Unit))) :=
  .t (decide (v < ((List.length k.2 : Nat) : Int)))
    (.g (inR v (List.length k.2)) <|
      .g (inR (List.getD k.2 (Int.toNat v) (0 : Int)) (List.length k.2)) <|
      .g (inR v (List.length k.2)) <|
      .t ((List.getD k.2 (Int.toNat (List.getD k.2 (Int.toNat v) (0 : Int))) (0 : Int)) != (List.getD k.2 (Int.toNat v) (0 : Int)))
        (.l (.inr (.inr ())))
        (.l (.inl (IntKind.wrap .i64 (v + (1 : Int))))))
    (.l (.inr (.inl ())))
noncomputable def L_sp_l11Hubs_2 (k : (List (List (Int))) × (List (Int))) (v : Int) : Option ((Unit) ⊕ (Unit)) := iter (fun v => (S_sp_l11Hubs_2 k v).ev) v
noncomputable def DL_sp_l11Hubs_2 : LD where
  head := { acts := [], S := { slots := [0, 1, 6], sh := (.cons (.dat (.slice (.slice (.int .i64)))) (.cons (.dat (.slice (.int .i64))) (.cons (.dat (.int .i64)) .nil))), obs := [] } }
  exits := [(2, { acts := [], S := { slots := [0, 1], sh := (.cons (.dat (.slice (.slice (.int .i64)))) (.cons (.dat (.slice (.int .i64))) .nil)), obs := [] } })]
  rets := { acts := [], S := { slots := [4], sh := (.cons (.dat .bool) .nil), obs := [] } }
  K := (List (List (Int))) × (List (Int))
  V := Int
  R := (Unit) ⊕ (Unit)
  join := fun k v => ((k.1, (k.2, (v, ()))), ())
  sk := fun t => (t.1.1, t.1.2.1)
  sv := fun t => t.1.2.2.1
  step := S_sp_l11Hubs_2
  leaf := fun k r => .s (Unit) (Unit) r (fun _ => .l (.exit 2 (mkSt ({ slots := [0, 1], sh := (.cons (.dat (.slice (.slice (.int .i64)))) (.cons (.dat (.slice (.int .i64))) .nil)), obs := [] }) ((k.1, (k.2, ())), ())))) (fun _ => .l (.ret (mkSt ({ slots := [4], sh := (.cons (.dat .bool) .nil), obs := [] }) ((false, ()), ()))))
noncomputable def T_sp_l11Hubs (a1_ : List (List (Int))) (a2_ : List (Int)) : Tr (Bool) :=
  .c ((Unit) ⊕ (Unit)) (L_sp_l11Hubs_0 (a1_, a2_) (0 : Int)) fun r8_ =>
  .s (Unit) (Unit) r8_
    (fun _ => .c ((Unit) ⊕ (Unit)) (L_sp_l11Hubs_2 (a1_, a2_) (0 : Int)) fun r17_ =>
      .s (Unit) (Unit) r17_
        (fun _ => .l (((List.length a2_ : Nat) : Int) == ((List.length a1_ : Nat) : Int)))
        (fun _ => .l false))
    (fun _ => .l false)
noncomputable def F_sp_l11Hubs (a1_ : List (List (Int))) (a2_ : List (Int)) : Option (Bool) := (T_sp_l11Hubs a1_ a2_).ev
noncomputable def A_sp_l11Hubs : Sh := (.cons (.dat (.slice (.slice (.int .i64)))) (.cons (.dat (.slice (.int .i64))) .nil))
noncomputable def I_sp_l11Hubs : List (Nat × OSh) := []
noncomputable def K_sp_l11Hubs : RetK := { acts := [], res := [.tmp 4], sh := (.cons (.dat .bool) .nil), obs := [], pins := [] }
noncomputable def D_sp_l11Hubs : FD where
  A := A_sp_l11Hubs
  ins := I_sp_l11Hubs
  lend := []
  R := Bool
  F := fun x => F_sp_l11Hubs x.1.1 x.1.2.1
  emb := fun r => ([.dat .bool r], [])
noncomputable def E_sp_l11Hubs : Env := envOf [(84, D_sp_l1In)]
noncomputable def Z_sp_l11Hubs : Nat → Nat → List Nat := fun _ _ => []
noncomputable def O_sp_l11Hubs : List (Nat × LD) := [(0, DL_sp_l11Hubs_0), (2, DL_sp_l11Hubs_2)]
noncomputable def C_sp_l11Hubs : Code := (f125.body).getD .skip
noncomputable def S_sp_l11Cost_2 (k : (List (List (Int))) × ((List (List (Int))) × ((List (Int)) × ((Int) × (Int))))) (v : (Int) × (Int)) : Tr (((Int) × (Int)) ⊕ (Int)) :=
  .t (decide (v.2 < ((List.length k.1 : Nat) : Int)))
    (.t (k.2.2.2.2 != v.2)
        (.g (inR k.2.2.2.2 (List.length k.2.1)) <|
          .g (inR v.2 (List.length (List.getD k.2.1 (Int.toNat k.2.2.2.2) ([] : List (Int))))) <|
          .g (inR k.2.2.2.2 (List.length k.1)) <|
          .g (inR k.2.2.2.2 (List.length k.2.2.1)) <|
          .g (inR (List.getD k.2.2.1 (Int.toNat k.2.2.2.2) (0 : Int)) (List.length (List.getD k.1 (Int.toNat k.2.2.2.2) ([] : List (Int))))) <|
          .g (inR v.2 (List.length k.1)) <|
          .g (inR v.2 (List.length k.2.2.1)) <|
          .g (inR (List.getD k.2.2.1 (Int.toNat v.2) (0 : Int)) (List.length (List.getD k.1 (Int.toNat v.2) ([] : List (Int))))) <|
          .g (inR k.2.2.2.2 (List.length k.2.2.1)) <|
          .g (inR (List.getD k.2.2.1 (Int.toNat k.2.2.2.2) (0 : Int)) (List.length k.1)) <|
          .g (inR v.2 (List.length k.2.2.1)) <|
          .g (inR (List.getD k.2.2.1 (Int.toNat v.2) (0 : Int)) (List.length (List.getD k.1 (Int.toNat (List.getD k.2.2.1 (Int.toNat k.2.2.2.2) (0 : Int))) ([] : List (Int))))) <|
          .l (.inl ((IntKind.wrap .i64 (v.1 + (IntKind.wrap .i64 ((List.getD (List.getD k.2.1 (Int.toNat k.2.2.2.2) ([] : List (Int))) (Int.toNat v.2) (0 : Int)) * (IntKind.wrap .i64 ((IntKind.wrap .i64 ((10 : Int) * (IntKind.wrap .i64 ((List.getD (List.getD k.1 (Int.toNat k.2.2.2.2) ([] : List (Int))) (Int.toNat (List.getD k.2.2.1 (Int.toNat k.2.2.2.2) (0 : Int))) (0 : Int)) + (List.getD (List.getD k.1 (Int.toNat v.2) ([] : List (Int))) (Int.toNat (List.getD k.2.2.1 (Int.toNat v.2) (0 : Int))) (0 : Int)))))) + (IntKind.wrap .i64 (k.2.2.2.1 * (List.getD (List.getD k.1 (Int.toNat (List.getD k.2.2.1 (Int.toNat k.2.2.2.2) (0 : Int))) ([] : List (Int))) (Int.toNat (List.getD k.2.2.1 (Int.toNat v.2) (0 : Int))) (0 : Int)))))))))), (IntKind.wrap .i64 (v.2 + (1 : Int))))))
        (.l (.inl (v.1, (IntKind.wrap .i64 (v.2 + (1 : Int)))))))
    (.l (.inr v.1))
noncomputable def L_sp_l11Cost_2 (k : (List (List (Int))) × ((List (List (Int))) × ((List (Int)) × ((Int) × (Int))))) (v : (Int) × (Int)) : Option (Int) := iter (fun v => (S_sp_l11Cost_2 k v).ev) v
noncomputable def DL_sp_l11Cost_2 : LD where
  head := { acts := [], S := { slots := [0, 1, 2, 3, 9, 10, 11], sh := (.cons (.dat (.slice (.slice (.int .i64)))) (.cons (.dat (.slice (.slice (.int .i64)))) (.cons (.dat (.slice (.int .i64))) (.cons (.dat (.int .i64)) (.cons (.dat (.int .i64)) (.cons (.dat (.int .i64)) (.cons (.dat (.int .i64)) .nil))))))), obs := [] } }
  exits := [(2, { acts := [], S := { slots := [0, 1, 2, 3, 9, 10], sh := (.cons (.dat (.slice (.slice (.int .i64)))) (.cons (.dat (.slice (.slice (.int .i64)))) (.cons (.dat (.slice (.int .i64))) (.cons (.dat (.int .i64)) (.cons (.dat (.int .i64)) (.cons (.dat (.int .i64)) .nil)))))), obs := [] } })]
  rets := { acts := [], S := { slots := [], sh := .nil, obs := [] } }
  K := (List (List (Int))) × ((List (List (Int))) × ((List (Int)) × ((Int) × (Int))))
  V := (Int) × (Int)
  R := Int
  join := fun k v => ((k.1, (k.2.1, (k.2.2.1, (k.2.2.2.1, (v.1, (k.2.2.2.2, (v.2, ()))))))), ())
  sk := fun t => (t.1.1, (t.1.2.1, (t.1.2.2.1, (t.1.2.2.2.1, t.1.2.2.2.2.2.1))))
  sv := fun t => (t.1.2.2.2.2.1, t.1.2.2.2.2.2.2.1)
  step := S_sp_l11Cost_2
  leaf := fun k r => .l (.exit 2 (mkSt ({ slots := [0, 1, 2, 3, 9, 10], sh := (.cons (.dat (.slice (.slice (.int .i64)))) (.cons (.dat (.slice (.slice (.int .i64)))) (.cons (.dat (.slice (.int .i64))) (.cons (.dat (.int .i64)) (.cons (.dat (.int .i64)) (.cons (.dat (.int .i64)) .nil)))))), obs := [] }) ((k.1, (k.2.1, (k.2.2.1, (k.2.2.2.1, (r, (k.2.2.2.2, ())))))), ())))
noncomputable def S_sp_l11Cost_0 (k : (List (List (Int))) × ((List (List (Int))) × ((List (Int)) × (Int)))) (v : (Int) × (Int)) : Tr (((Int) × (Int)) ⊕ (Int)) :=
  .t (decide (v.2 < ((List.length k.1 : Nat) : Int)))
    (.c (Int) (L_sp_l11Cost_2 (k.1, (k.2.1, (k.2.2.1, (k.2.2.2, v.2)))) (v.1, (0 : Int))) fun r20_ =>
      .l (.inl (r20_, (IntKind.wrap .i64 (v.2 + (1 : Int))))))
    (.l (.inr v.1))
noncomputable def L_sp_l11Cost_0 (k : (List (List (Int))) × ((List (List (Int))) × ((List (Int)) × (Int)))) (v : (Int) × (Int)) : Option (Int) := iter (fun v => (S_sp_l11Cost_0 k v).ev) v
noncomputable def DL_sp_l11Cost_0 : LD where
  head := { acts := [], S := { slots := [0, 1, 2, 3, 9, 10], sh := (.cons (.dat (.slice (.slice (.int .i64)))) (.cons (.dat (.slice (.slice (.int .i64)))) (.cons (.dat (.slice (.int .i64))) (.cons (.dat (.int .i64)) (.cons (.dat (.int .i64)) (.cons (.dat (.int .i64)) .nil)))))), obs := [] } }
  exits := [(0, { acts := [], S := { slots := [9], sh := (.cons (.dat (.int .i64)) .nil), obs := [] } })]
  rets := { acts := [], S := { slots := [], sh := .nil, obs := [] } }
  K := (List (List (Int))) × ((List (List (Int))) × ((List (Int)) × (Int)))
  V := (Int) × (Int)
  R := Int
  join := fun k v => ((k.1, (k.2.1, (k.2.2.1, (k.2.2.2, (v.1, (v.2, ())))))), ())
  sk := fun t => (t.1.1, (t.1.2.1, (t.1.2.2.1, t.1.2.2.2.1)))
  sv := fun t => (t.1.2.2.2.2.1, t.1.2.2.2.2.2.1)
  step := S_sp_l11Cost_0
  leaf := fun _ r => .l (.exit 0 (mkSt ({ slots := [9], sh := (.cons (.dat (.int .i64)) .nil), obs := [] }) ((r, ()), ())))
noncomputable def T_sp_l11Cost (a1_ : List (List (Int))) (a2_ : List (List (Int))) (a3_ : List (Int)) (a4_ : Int) : Tr (Int) :=
  .c (Int) (L_sp_l11Cost_0 (a1_, (a2_, (a3_, a4_))) ((0 : Int), (0 : Int))) fun r22_ =>
  .l r22_
noncomputable def F_sp_l11Cost (a1_ : List (List (Int))) (a2_ : List (List (Int))) (a3_ : List (Int)) (a4_ : Int) : Option (Int) := (T_sp_l11Cost a1_ a2_ a3_ a4_).ev
noncomputable def A_sp_l11Cost : Sh := (.cons (.dat (.slice (.slice (.int .i64)))) (.cons (.dat (.slice (.slice (.int .i64)))) (.cons (.dat (.slice (.int .i64))) (.cons (.dat (.int .i64)) .nil))))
noncomputable def I_sp_l11Cost : List (Nat × OSh) := []
noncomputable def K_sp_l11Cost : RetK := { acts := [], res := [.tmp 8], sh := (.cons (.dat (.int .i64)) .nil), obs := [], pins := [] }
noncomputable def D_sp_l11Cost : FD where
  A := A_sp_l11Cost
  ins := I_sp_l11Cost
  lend := []
  R := Int
  F := fun x => F_sp_l11Cost x.1.1 x.1.2.1 x.1.2.2.1 x.1.2.2.2.1
  emb := fun r => ([.dat (.int .i64) r], [])
noncomputable def E_sp_l11Cost : Env := envOf []
noncomputable def Z_sp_l11Cost : Nat → Nat → List Nat := fun _ _ => []
noncomputable def O_sp_l11Cost : List (Nat × LD) := [(2, DL_sp_l11Cost_2), (0, DL_sp_l11Cost_0)]
noncomputable def C_sp_l11Cost : Code := (f126.body).getD .skip
noncomputable def S_sp_l11Try_0 (rec_ : (List (List (Int))) → (List (List (Int))) → (Int) → (Int) → (List (Int)) → (List (Int)) → Option (List (Int))) (k : (List (List (Int))) × ((List (List (Int))) × ((Int) × ((Int) × (List (Int)))))) (v : (List (Int)) × (Int)) : Tr (((List (Int)) × (Int)) ⊕ (List (Int))) :=
  .t (decide (v.2 < ((List.length k.1 : Nat) : Int)))
    (.c (List (Int)) (F_sp_l1Own k.2.2.2.2) fun r8_ =>
      .g (decide ((List.length r8_ + List.length ([v.2] : List (Int))) * 8 ≤ 140737488355328)) <|
      .c (List (Int)) (rec_ k.1 k.2.1 k.2.2.1 k.2.2.2.1 (r8_ ++ ([v.2] : List (Int))) v.1) fun r9_ =>
      .l (.inl (r9_, (IntKind.wrap .i64 (v.2 + (1 : Int))))))
    (.l (.inr v.1))
noncomputable def L_sp_l11Try_0 (rec_ : (List (List (Int))) → (List (List (Int))) → (Int) → (Int) → (List (Int)) → (List (Int)) → Option (List (Int))) (k : (List (List (Int))) × ((List (List (Int))) × ((Int) × ((Int) × (List (Int)))))) (v : (List (Int)) × (Int)) : Option (List (Int)) := iter (fun v => (S_sp_l11Try_0 rec_ k v).ev) v
noncomputable def DL_sp_l11Try_0 (rec_ : (List (List (Int))) → (List (List (Int))) → (Int) → (Int) → (List (Int)) → (List (Int)) → Option (List (Int))) : LD where
  head := { acts := [], S := { slots := [0, 1, 2, 3, 4, 5, 13], sh := (.cons (.dat (.slice (.slice (.int .i64)))) (.cons (.dat (.slice (.slice (.int .i64)))) (.cons (.dat (.int .i64)) (.cons (.dat (.int .i64)) (.cons (.dat (.slice (.int .i64))) (.cons (.dat (.slice (.int .i64))) (.cons (.dat (.int .i64)) .nil))))))), obs := [] } }
  exits := [(0, { acts := [], S := { slots := [5], sh := (.cons (.dat (.slice (.int .i64))) .nil), obs := [] } })]
  rets := { acts := [], S := { slots := [], sh := .nil, obs := [] } }
  K := (List (List (Int))) × ((List (List (Int))) × ((Int) × ((Int) × (List (Int)))))
  V := (List (Int)) × (Int)
  R := List (Int)
  join := fun k v => ((k.1, (k.2.1, (k.2.2.1, (k.2.2.2.1, (k.2.2.2.2, (v.1, (v.2, ()))))))), ())
  sk := fun t => (t.1.1, (t.1.2.1, (t.1.2.2.1, (t.1.2.2.2.1, t.1.2.2.2.2.1))))
  sv := fun t => (t.1.2.2.2.2.2.1, t.1.2.2.2.2.2.2.1)
  step := S_sp_l11Try_0 rec_
  leaf := fun _ r => .l (.exit 0 (mkSt ({ slots := [5], sh := (.cons (.dat (.slice (.int .i64))) .nil), obs := [] }) ((r, ()), ())))
noncomputable def S_sp_l11Try_2 (rec_ : (List (List (Int))) → (List (List (Int))) → (Int) → (Int) → (List (Int)) → (List (Int)) → Option (List (Int))) (k : (List (List (Int))) × ((List (List (Int))) × ((Int) × ((Int) × ((List (Int)) × (List (Int))))))) (v : (List (Int)) × (Int)) : Tr (((List (Int)) × (Int)) ⊕ (List (Int))) :=
  .t (decide (v.2 < ((List.length k.2.2.2.2.1 : Nat) : Int)))
    (.g (inR v.2 (List.length k.2.2.2.2.1)) <|
      .c (List (Int)) (F_sp_l1Put v.1 (List.getD k.2.2.2.2.1 (Int.toNat v.2) (0 : Int))) fun r20_ =>
      .l (.inl (r20_, (IntKind.wrap .i64 (v.2 + (1 : Int))))))
    (.l (.inr v.1))
noncomputable def L_sp_l11Try_2 (rec_ : (List (List (Int))) → (List (List (Int))) → (Int) → (Int) → (List (Int)) → (List (Int)) → Option (List (Int))) (k : (List (List (Int))) × ((List (List (Int))) × ((Int) × ((Int) × ((List (Int)) × (List (Int))))))) (v : (List (Int)) × (Int)) : Option (List (Int)) := iter (fun v => (S_sp_l11Try_2 rec_ k v).ev) v
noncomputable def DL_sp_l11Try_2 (rec_ : (List (List (Int))) → (List (List (Int))) → (Int) → (Int) → (List (Int)) → (List (Int)) → Option (List (Int))) : LD where
  head := { acts := [.fz 39], S := { slots := [0, 1, 2, 3, 4, 5, 14, 15], sh := (.cons (.dat (.slice (.slice (.int .i64)))) (.cons (.dat (.slice (.slice (.int .i64)))) (.cons (.dat (.int .i64)) (.cons (.dat (.int .i64)) (.cons (.dat (.slice (.int .i64))) (.cons (.dat (.slice (.int .i64))) (.cons (.dat (.slice (.int .i64))) (.cons (.dat (.int .i64)) .nil)))))))), obs := [] } }
  exits := [(2, { acts := [], S := { slots := [0, 1, 2, 3, 4, 5, 14], sh := (.cons (.dat (.slice (.slice (.int .i64)))) (.cons (.dat (.slice (.slice (.int .i64)))) (.cons (.dat (.int .i64)) (.cons (.dat (.int .i64)) (.cons (.dat (.slice (.int .i64))) (.cons (.dat (.slice (.int .i64))) (.cons (.dat (.slice (.int .i64))) .nil))))))), obs := [] } })]
  rets := { acts := [], S := { slots := [], sh := .nil, obs := [] } }
  K := (List (List (Int))) × ((List (List (Int))) × ((Int) × ((Int) × ((List (Int)) × (List (Int))))))
  V := (List (Int)) × (Int)
  R := List (Int)
  join := fun k v => ((k.1, (k.2.1, (k.2.2.1, (k.2.2.2.1, (k.2.2.2.2.1, (k.2.2.2.2.2, (v.1, (v.2, ())))))))), ())
  sk := fun t => (t.1.1, (t.1.2.1, (t.1.2.2.1, (t.1.2.2.2.1, (t.1.2.2.2.2.1, t.1.2.2.2.2.2.1)))))
  sv := fun t => (t.1.2.2.2.2.2.2.1, t.1.2.2.2.2.2.2.2.1)
  step := S_sp_l11Try_2 rec_
  leaf := fun k r => .l (.exit 2 (mkSt ({ slots := [0, 1, 2, 3, 4, 5, 14], sh := (.cons (.dat (.slice (.slice (.int .i64)))) (.cons (.dat (.slice (.slice (.int .i64)))) (.cons (.dat (.int .i64)) (.cons (.dat (.int .i64)) (.cons (.dat (.slice (.int .i64))) (.cons (.dat (.slice (.int .i64))) (.cons (.dat (.slice (.int .i64))) .nil))))))), obs := [] }) ((k.1, (k.2.1, (k.2.2.1, (k.2.2.2.1, (k.2.2.2.2.1, (k.2.2.2.2.2, (r, ()))))))), ())))
noncomputable def T_sp_l11Try (rec_ : (List (List (Int))) → (List (List (Int))) → (Int) → (Int) → (List (Int)) → (List (Int)) → Option (List (Int))) (a1_ : List (List (Int))) (a2_ : List (List (Int))) (a3_ : Int) (a4_ : Int) (a5_ : List (Int)) (a6_ : List (Int)) : Tr (List (Int)) :=
  .t (decide (((List.length a5_ : Nat) : Int) < ((List.length a1_ : Nat) : Int)))
    (.c (List (Int)) (L_sp_l11Try_0 rec_ (a1_, (a2_, (a3_, (a4_, a5_)))) (a6_, (0 : Int))) fun r11_ =>
      .l r11_)
    (.c (List (Int)) (L_sp_l11Try_2 rec_ (a1_, (a2_, (a3_, (a4_, (a5_, a6_))))) (([] : List (Int)), (0 : Int))) fun r28_ =>
      .t (decide (a3_ < ((List.length r28_ : Nat) : Int)))
        (.l a6_)
        (.c (Bool) (F_sp_l11Hubs a1_ a5_) fun r29_ =>
          .t (!r29_)
            (.l a6_)
            (.t (((List.length a6_ : Nat) : Int) == (0 : Int))
                (.l a5_)
                (.c (Int) (F_sp_l11Cost a1_ a2_ a5_ a4_) fun r30_ =>
                  .c (Int) (F_sp_l11Cost a1_ a2_ a6_ a4_) fun r31_ =>
                  .t (decide (r30_ < r31_))
                    (.l a5_)
                    (.l a6_)))))
noncomputable def F_sp_l11Try : Nat → (List (List (Int))) → (List (List (Int))) → (Int) → (Int) → (List (Int)) → (List (Int)) → Option (List (Int))
  | 0 => fun _ _ _ _ _ _ => none
  | n + 1 => fun a1_ a2_ a3_ a4_ a5_ a6_ => (T_sp_l11Try (F_sp_l11Try n) a1_ a2_ a3_ a4_ a5_ a6_).ev
noncomputable def A_sp_l11Try : Sh := (.cons (.dat (.slice (.slice (.int .i64)))) (.cons (.dat (.slice (.slice (.int .i64)))) (.cons (.dat (.int .i64)) (.cons (.dat (.int .i64)) (.cons (.dat (.slice (.int .i64))) (.cons (.dat (.slice (.int .i64))) .nil))))))
noncomputable def I_sp_l11Try : List (Nat × OSh) := []
noncomputable def K_sp_l11Try : RetK := { acts := [], res := [.tmp 12], sh := (.cons (.dat (.slice (.int .i64))) .nil), obs := [], pins := [] }
noncomputable def Dr_sp_l11Try (rec_ : (List (List (Int))) → (List (List (Int))) → (Int) → (Int) → (List (Int)) → (List (Int)) → Option (List (Int))) : FD where
  A := A_sp_l11Try
  ins := I_sp_l11Try
  lend := []
  R := List (Int)
  F := fun x => rec_ x.1.1 x.1.2.1 x.1.2.2.1 x.1.2.2.2.1 x.1.2.2.2.2.1 x.1.2.2.2.2.2.1
  emb := fun r => ([.dat (.slice (.int .i64)) r], [])
noncomputable def D_sp_l11Try (n : Nat) : FD := Dr_sp_l11Try (F_sp_l11Try n)
noncomputable def E_sp_l11Try (rec_ : (List (List (Int))) → (List (List (Int))) → (Int) → (Int) → (List (Int)) → (List (Int)) → Option (List (Int))) : Env := envOf [(142, D_sp_l1Own), (85, Dr_sp_l11Try rec_), (143, D_sp_l1Put), (125, D_sp_l11Hubs), (126, D_sp_l11Cost)]
noncomputable def Z_sp_l11Try : Nat → Nat → List Nat := fun r i => match look [(5, [(10, [35])]), (11, [(5, [46])])] r with
  | some l => (look l i).getD []
  | none => []
noncomputable def O_sp_l11Try (rec_ : (List (List (Int))) → (List (List (Int))) → (Int) → (Int) → (List (Int)) → (List (Int)) → Option (List (Int))) : List (Nat × LD) := [(0, DL_sp_l11Try_0 rec_), (2, DL_sp_l11Try_2 rec_)]
noncomputable def C_sp_l11Try : Code := (f85.body).getD .skip
noncomputable def T_sp_BestHubs (a1_ : List (List (Int))) (a2_ : List (List (Int))) (a3_ : Int) (a4_ : Int) : Tr ((List (Int)) × (Bool)) :=
  .c (Bool) (F_sp_l11Flows a1_ a2_ a4_) fun r1_ =>
  .t (!r1_)
    (.l (([] : List (Int)), false))
    (.c (Bool) (F_sp_l1In a3_ (1 : Int) (5 : Int)) fun r2_ =>
      .t (!r2_)
        (.l (([] : List (Int)), false))
        (.c (List (Int)) (F_sp_l11Try 1000000 a1_ a2_ a3_ a4_ ([] : List (Int)) ([] : List (Int))) fun r3_ =>
          .l (r3_, true)))
noncomputable def F_sp_BestHubs (a1_ : List (List (Int))) (a2_ : List (List (Int))) (a3_ : Int) (a4_ : Int) : Option ((List (Int)) × (Bool)) := (T_sp_BestHubs a1_ a2_ a3_ a4_).ev
noncomputable def A_sp_BestHubs : Sh := (.cons (.dat (.slice (.slice (.int .i64)))) (.cons (.dat (.slice (.slice (.int .i64)))) (.cons (.dat (.int .i64)) (.cons (.dat (.int .i64)) .nil))))
noncomputable def I_sp_BestHubs : List (Nat × OSh) := []
noncomputable def K_sp_BestHubs : RetK := { acts := [.fz 20], res := [.tmp 8, .tmp 9], sh := (.cons (.dat (.slice (.int .i64))) (.cons (.dat .bool) .nil)), obs := [], pins := [] }
noncomputable def D_sp_BestHubs : FD where
  A := A_sp_BestHubs
  ins := I_sp_BestHubs
  lend := []
  R := (List (Int)) × (Bool)
  F := fun x => F_sp_BestHubs x.1.1 x.1.2.1 x.1.2.2.1 x.1.2.2.2.1
  emb := fun r => ([.dat (.slice (.int .i64)) r.1, .dat .bool r.2], [])
noncomputable def E_sp_BestHubs : Env := envOf [(83, D_sp_l11Flows), (84, D_sp_l1In), (85, D_sp_l11Try 1000000)]
noncomputable def Z_sp_BestHubs : Nat → Nat → List Nat := fun r i => match look [(3, [(6, [25, 26])])] r with
  | some l => (look l i).getD []
  | none => []
noncomputable def O_sp_BestHubs : List (Nat × LD) := []
noncomputable def C_sp_BestHubs : Code := (f30.body).getD .skip
noncomputable def S_slices_IndexFunc_Sint_int_0 (k : (List (Int)) × (((HL [(.int .i64)] → Option (Bool))) × (Int))) (v : Int) : Tr ((Int) ⊕ ((Unit) ⊕ (Int))) :=
  .t (decide (v < k.2.2))
    (.g (inR v (List.length k.1)) <|
      .c (Bool) (k.2.1 ((List.getD k.1 (Int.toNat v) (0 : Int)), ())) fun r5_ =>
      .t r5_
        (.l (.inr (.inr v)))
        (.l (.inl (IntKind.wrap .i64 (v + (1 : Int))))))
    (.l (.inr (.inl ())))
noncomputable def L_slices_IndexFunc_Sint_int_0 (k : (List (Int)) × (((HL [(.int .i64)] → Option (Bool))) × (Int))) (v : Int) : Option ((Unit) ⊕ (Int)) := iter (fun v => (S_slices_IndexFunc_Sint_int_0 k v).ev) v
noncomputable def DL_slices_IndexFunc_Sint_int_0 : LD where
  head := { acts := [], S := { slots := [0, 1, 7, 8], sh := (.cons (.dat (.slice (.int .i64))) (.cons (.clo [(.int .i64)] .bool) (.cons (.dat (.int .i64)) (.cons (.dat (.int .i64)) .nil)))), obs := [] } }
  exits := [(0, { acts := [], S := { slots := [], sh := .nil, obs := [] } })]
  rets := { acts := [], S := { slots := [4], sh := (.cons (.dat (.int .i64)) .nil), obs := [] } }
  K := (List (Int)) × (((HL [(.int .i64)] → Option (Bool))) × (Int))
  V := Int
  R := (Unit) ⊕ (Int)
  join := fun k v => ((k.1, (k.2.1, (k.2.2, (v, ())))), ())
  sk := fun t => (t.1.1, (t.1.2.1, t.1.2.2.1))
  sv := fun t => t.1.2.2.2.1
  step := S_slices_IndexFunc_Sint_int_0
  leaf := fun _ r => .s (Unit) (Int) r (fun _ => .l (.exit 0 (mkSt ({ slots := [], sh := .nil, obs := [] }) ((), ())))) (fun b => .l (.ret (mkSt ({ slots := [4], sh := (.cons (.dat (.int .i64)) .nil), obs := [] }) ((b, ()), ()))))
noncomputable def T_slices_IndexFunc_Sint_int (a1_ : List (Int)) (a2_ : (HL [(.int .i64)] → Option (Bool))) : Tr (Int) :=
  .c ((Unit) ⊕ (Int)) (L_slices_IndexFunc_Sint_int_0 (a1_, (a2_, ((List.length a1_ : Nat) : Int))) (0 : Int)) fun r7_ =>
  .s (Unit) (Int) r7_
    (fun _ => .l (-1 : Int))
    (fun r9_ => .l r9_)
noncomputable def F_slices_IndexFunc_Sint_int (a1_ : List (Int)) (a2_ : (HL [(.int .i64)] → Option (Bool))) : Option (Int) := (T_slices_IndexFunc_Sint_int a1_ a2_).ev
noncomputable def A_slices_IndexFunc_Sint_int : Sh := (.cons (.dat (.slice (.int .i64))) (.cons (.clo [(.int .i64)] .bool) .nil))
noncomputable def I_slices_IndexFunc_Sint_int : List (Nat × OSh) := []
noncomputable def K_slices_IndexFunc_Sint_int : RetK := { acts := [], res := [.tmp 4], sh := (.cons (.dat (.int .i64)) .nil), obs := [], pins := [] }
noncomputable def D_slices_IndexFunc_Sint_int : FD where
  A := A_slices_IndexFunc_Sint_int
  ins := I_slices_IndexFunc_Sint_int
  lend := []
  R := Int
  F := fun x => F_slices_IndexFunc_Sint_int x.1.1 x.1.2.1
  emb := fun r => ([.dat (.int .i64) r], [])
noncomputable def E_slices_IndexFunc_Sint_int : Env := envOf []
noncomputable def Z_slices_IndexFunc_Sint_int : Nat → Nat → List Nat := fun _ _ => []
noncomputable def O_slices_IndexFunc_Sint_int : List (Nat × LD) := [(0, DL_slices_IndexFunc_Sint_int_0)]
noncomputable def C_slices_IndexFunc_Sint_int : Code := (f152.body).getD .skip
noncomputable def T_slices_ContainsFunc_Sint_int (a1_ : List (Int)) (a2_ : (HL [(.int .i64)] → Option (Bool))) : Tr (Bool) :=
  .c (Int) (F_slices_IndexFunc_Sint_int a1_ a2_) fun r1_ =>
  .l (decide ((0 : Int) ≤ r1_))
noncomputable def F_slices_ContainsFunc_Sint_int (a1_ : List (Int)) (a2_ : (HL [(.int .i64)] → Option (Bool))) : Option (Bool) := (T_slices_ContainsFunc_Sint_int a1_ a2_).ev
noncomputable def A_slices_ContainsFunc_Sint_int : Sh := (.cons (.dat (.slice (.int .i64))) (.cons (.clo [(.int .i64)] .bool) .nil))
noncomputable def I_slices_ContainsFunc_Sint_int : List (Nat × OSh) := []
noncomputable def K_slices_ContainsFunc_Sint_int : RetK := { acts := [], res := [.tmp 4], sh := (.cons (.dat .bool) .nil), obs := [], pins := [] }
noncomputable def D_slices_ContainsFunc_Sint_int : FD where
  A := A_slices_ContainsFunc_Sint_int
  ins := I_slices_ContainsFunc_Sint_int
  lend := []
  R := Bool
  F := fun x => F_slices_ContainsFunc_Sint_int x.1.1 x.1.2.1
  emb := fun r => ([.dat .bool r], [])
noncomputable def E_slices_ContainsFunc_Sint_int : Env := envOf [(152, D_slices_IndexFunc_Sint_int)]
noncomputable def Z_slices_ContainsFunc_Sint_int : Nat → Nat → List Nat := fun _ _ => []
noncomputable def O_slices_ContainsFunc_Sint_int : List (Nat × LD) := []
noncomputable def C_slices_ContainsFunc_Sint_int : Code := (f99.body).getD .skip
noncomputable def T_im_between (a1_ : Int) (a2_ : Int) (a3_ : Int) : Tr (Bool) :=
  .t (decide (a2_ ≤ a1_))
    (.l (decide (a1_ ≤ a3_)))
    (.l false)
noncomputable def F_im_between (a1_ : Int) (a2_ : Int) (a3_ : Int) : Option (Bool) := (T_im_between a1_ a2_ a3_).ev
noncomputable def A_im_between : Sh := (.cons (.dat (.int .i64)) (.cons (.dat (.int .i64)) (.cons (.dat (.int .i64)) .nil)))
noncomputable def I_im_between : List (Nat × OSh) := []
noncomputable def K_im_between : RetK := { acts := [], res := [.tmp 6], sh := (.cons (.dat .bool) .nil), obs := [], pins := [] }
noncomputable def D_im_between : FD where
  A := A_im_between
  ins := I_im_between
  lend := []
  R := Bool
  F := fun x => F_im_between x.1.1 x.1.2.1 x.1.2.2.1
  emb := fun r => ([.dat .bool r], [])
noncomputable def E_im_between : Env := envOf []
noncomputable def Z_im_between : Nat → Nat → List Nat := fun _ _ => []
noncomputable def O_im_between : List (Nat × LD) := []
noncomputable def C_im_between : Code := (f67.body).getD .skip
noncomputable def T_im_areBetween_1 (a1_ : Int) (a2_ : Int) (a3_ : Int) : Tr (Bool) :=
  .c (Bool) (F_im_between a1_ a2_ a3_) fun r1_ =>
  .l (!r1_)
noncomputable def F_im_areBetween_1 (a1_ : Int) (a2_ : Int) (a3_ : Int) : Option (Bool) := (T_im_areBetween_1 a1_ a2_ a3_).ev
noncomputable def A_im_areBetween_1 : Sh := (.cons (.dat (.int .i64)) (.cons (.ptr (.cons (.dat (.int .i64)) .nil)) (.cons (.ptr (.cons (.dat (.int .i64)) .nil)) .nil)))
noncomputable def I_im_areBetween_1 : List (Nat × OSh) := []
noncomputable def K_im_areBetween_1 : RetK := { acts := [], res := [.tmp 4], sh := (.cons (.dat .bool) .nil), obs := [], pins := [] }
noncomputable def D_im_areBetween_1 : FD where
  A := A_im_areBetween_1
  ins := I_im_areBetween_1
  lend := []
  R := Bool
  F := fun x => F_im_areBetween_1 x.1.1 x.1.2.1.1 x.1.2.2.1.1
  emb := fun r => ([.dat .bool r], [])
noncomputable def E_im_areBetween_1 : Env := envOf [(67, D_im_between)]
noncomputable def Z_im_areBetween_1 : Nat → Nat → List Nat := fun _ _ => []
noncomputable def O_im_areBetween_1 : List (Nat × LD) := []
noncomputable def C_im_areBetween_1 : Code := (f178.body).getD .skip
noncomputable def T_im_areBetween (a1_ : List (Int)) (a2_ : Int) (a3_ : Int) : Tr (Bool) :=
  .c (Bool) (F_slices_ContainsFunc_Sint_int a1_ (fun h1_ => Option.bind (F_im_areBetween_1 h1_.1 a2_ a3_) fun y2_ => some y2_)) fun r3_ =>
  .l (!r3_)
noncomputable def F_im_areBetween (a1_ : List (Int)) (a2_ : Int) (a3_ : Int) : Option (Bool) := (T_im_areBetween a1_ a2_ a3_).ev
noncomputable def A_im_areBetween : Sh := (.cons (.dat (.slice (.int .i64))) (.cons (.dat (.int .i64)) (.cons (.dat (.int .i64)) .nil)))
noncomputable def I_im_areBetween : List (Nat × OSh) := []
noncomputable def K_im_areBetween : RetK := { acts := [], res := [.tmp 6], sh := (.cons (.dat .bool) .nil), obs := [], pins := [] }
noncomputable def D_im_areBetween : FD where
  A := A_im_areBetween
  ins := I_im_areBetween
  lend := []
  R := Bool
  F := fun x => F_im_areBetween x.1.1 x.1.2.1 x.1.2.2.1
  emb := fun r => ([.dat .bool r], [])
noncomputable def E_im_areBetween : Env := envOf [(99, D_slices_ContainsFunc_Sint_int), (99, D_slices_ContainsFunc_Sint_int), (178, D_im_areBetween_1)]
noncomputable def Z_im_areBetween : Nat → Nat → List Nat := fun _ _ => []
noncomputable def O_im_areBetween : List (Nat × LD) := []
noncomputable def C_im_areBetween : Code := (f133.body).getD .skip
noncomputable def S_im_IsGround_0 (k : (List (List (Int))) × ((List (List (Int))) × (Int))) (v : Int) : Tr ((Int) ⊕ ((Unit) ⊕ (Unit))) :=
  .t (decide (v < k.2.2))
    (.g (inR v (List.length k.2.1)) <|
      .t (((List.length (List.getD k.2.1 (Int.toNat v) ([] : List (Int))) : Nat) : Int) != ((List.length k.1 : Nat) : Int))
        (.l (.inr (.inr ())))
        (.c (Bool) (F_im_areBetween (List.getD k.2.1 (Int.toNat v) ([] : List (Int))) (0 : Int) (99 : Int)) fun r5_ =>
          .t (!r5_)
            (.l (.inr (.inr ())))
            (.l (.inl (IntKind.wrap .i64 (v + (1 : Int)))))))
    (.l (.inr (.inl ())))
noncomputable def L_im_IsGround_0 (k : (List (List (Int))) × ((List (List (Int))) × (Int))) (v : Int) : Option ((Unit) ⊕ (Unit)) := iter (fun v => (S_im_IsGround_0 k v).ev) v
noncomputable def DL_im_IsGround_0 : LD where
  head := { acts := [], S := { slots := [0, 12, 13, 14], sh := (.cons (.dat (.slice (.slice (.int .i64)))) (.cons (.dat (.slice (.slice (.int .i64)))) (.cons (.dat (.int .i64)) (.cons (.dat (.int .i64)) .nil)))), obs := [] } }
  exits := [(0, { acts := [], S := { slots := [0], sh := (.cons (.dat (.slice (.slice (.int .i64)))) .nil), obs := [] } })]
  rets := { acts := [], S := { slots := [2], sh := (.cons (.dat .bool) .nil), obs := [] } }
  K := (List (List (Int))) × ((List (List (Int))) × (Int))
  V := Int
  R := (Unit) ⊕ (Unit)
  join := fun k v => ((k.1, (k.2.1, (k.2.2, (v, ())))), ())
  sk := fun t => (t.1.1, (t.1.2.1, t.1.2.2.1))
  sv := fun t => t.1.2.2.2.1
  step := S_im_IsGround_0
  leaf := fun k r => .s (Unit) (Unit) r (fun _ => .l (.exit 0 (mkSt ({ slots := [0], sh := (.cons (.dat (.slice (.slice (.int .i64)))) .nil), obs := [] }) ((k.1, ()), ())))) (fun _ => .l (.ret (mkSt ({ slots := [2], sh := (.cons (.dat .bool) .nil), obs := [] }) ((false, ()), ()))))
noncomputable def S_im_IsGround_4 (k : (List (List (Int))) × ((Int) × ((List (List (Int))) × ((Int) × ((Int) × ((List (Int)) × (Int))))))) (v : Int) : Tr ((Int) ⊕ ((Unit) ⊕ (Unit))) :=
  .t (decide (v < k.2.2.2.2.2.2))
    (.g (inR v (List.length k.2.2.2.2.2.1)) <|
      .g (inR v (List.length k.1)) <|
      .g (inR k.2.1 (List.length (List.getD k.1 (Int.toNat v) ([] : List (Int))))) <|
      .t ((List.getD k.2.2.2.2.2.1 (Int.toNat v) (0 : Int)) != (List.getD (List.getD k.1 (Int.toNat v) ([] : List (Int))) (Int.toNat k.2.1) (0 : Int)))
        (.l (.inr (.inr ())))
        (.t (k.2.1 == v)
            (.t ((List.getD k.2.2.2.2.2.1 (Int.toNat v) (0 : Int)) != (0 : Int))
                (.l (.inr (.inr ())))
                (.l (.inl (IntKind.wrap .i64 (v + (1 : Int))))))
            (.l (.inl (IntKind.wrap .i64 (v + (1 : Int)))))))
    (.l (.inr (.inl ())))
noncomputable def L_im_IsGround_4 (k : (List (List (Int))) × ((Int) × ((List (List (Int))) × ((Int) × ((Int) × ((List (Int)) × (Int))))))) (v : Int) : Option ((Unit) ⊕ (Unit)) := iter (fun v => (S_im_IsGround_4 k v).ev) v
noncomputable def DL_im_IsGround_4 : LD where
  head := { acts := [], S := { slots := [0, 5, 29, 30, 31, 36, 37, 38], sh := (.cons (.dat (.slice (.slice (.int .i64)))) (.cons (.dat (.int .i64)) (.cons (.dat (.slice (.slice (.int .i64)))) (.cons (.dat (.int .i64)) (.cons (.dat (.int .i64)) (.cons (.dat (.slice (.int .i64))) (.cons (.dat (.int .i64)) (.cons (.dat (.int .i64)) .nil)))))))), obs := [] } }
  exits := [(4, { acts := [], S := { slots := [0, 29, 30, 31], sh := (.cons (.dat (.slice (.slice (.int .i64)))) (.cons (.dat (.slice (.slice (.int .i64)))) (.cons (.dat (.int .i64)) (.cons (.dat (.int .i64)) .nil)))), obs := [] } })]
  rets := { acts := [], S := { slots := [2], sh := (.cons (.dat .bool) .nil), obs := [] } }
  K := (List (List (Int))) × ((Int) × ((List (List (Int))) × ((Int) × ((Int) × ((List (Int)) × (Int))))))
  V := Int
  R := (Unit) ⊕ (Unit)
  join := fun k v => ((k.1, (k.2.1, (k.2.2.1, (k.2.2.2.1, (k.2.2.2.2.1, (k.2.2.2.2.2.1, (k.2.2.2.2.2.2, (v, ())))))))), ())
  sk := fun t => (t.1.1, (t.1.2.1, (t.1.2.2.1, (t.1.2.2.2.1, (t.1.2.2.2.2.1, (t.1.2.2.2.2.2.1, t.1.2.2.2.2.2.2.1))))))
  sv := fun t => t.1.2.2.2.2.2.2.2.1
  step := S_im_IsGround_4
  leaf := fun k r => .s (Unit) (Unit) r (fun _ => .l (.exit 4 (mkSt ({ slots := [0, 29, 30, 31], sh := (.cons (.dat (.slice (.slice (.int .i64)))) (.cons (.dat (.slice (.slice (.int .i64)))) (.cons (.dat (.int .i64)) (.cons (.dat (.int .i64)) .nil)))), obs := [] }) ((k.1, (k.2.2.1, (k.2.2.2.1, (k.2.2.2.2.1, ())))), ())))) (fun _ => .l (.ret (mkSt ({ slots := [2], sh := (.cons (.dat .bool) .nil), obs := [] }) ((false, ()), ()))))
noncomputable def S_im_IsGround_2 (k : (List (List (Int))) × ((List (List (Int))) × (Int))) (v : Int) : Tr ((Int) ⊕ ((Unit) ⊕ (Unit))) :=
  .t (decide (v < k.2.2))
    (.g (inR v (List.length k.2.1)) <|
      .c ((Unit) ⊕ (Unit)) (L_im_IsGround_4 (k.1, (v, (k.2.1, (k.2.2, (v, ((List.getD k.2.1 (Int.toNat v) ([] : List (Int))), ((List.length (List.getD k.2.1 (Int.toNat v) ([] : List (Int))) : Nat) : Int))))))) (0 : Int)) fun r28_ =>
      .s (Unit) (Unit) r28_
        (fun _ => .l (.inl (IntKind.wrap .i64 (v + (1 : Int)))))
        (fun _ => .l (.inr (.inr ()))))
    (.l (.inr (.inl ())))
noncomputable def L_im_IsGround_2 (k : (List (List (Int))) × ((List (List (Int))) × (Int))) (v : Int) : Option ((Unit) ⊕ (Unit)) := iter (fun v => (S_im_IsGround_2 k v).ev) v
noncomputable def DL_im_IsGround_2 : LD where
  head := { acts := [], S := { slots := [0, 29, 30, 31], sh := (.cons (.dat (.slice (.slice (.int .i64)))) (.cons (.dat (.slice (.slice (.int .i64)))) (.cons (.dat (.int .i64)) (.cons (.dat (.int .i64)) .nil)))), obs := [] } }
  exits := [(2, { acts := [], S := { slots := [], sh := .nil, obs := [] } })]
  rets := { acts := [], S := { slots := [2], sh := (.cons (.dat .bool) .nil), obs := [] } }
  K := (List (List (Int))) × ((List (List (Int))) × (Int))
  V := Int
  R := (Unit) ⊕ (Unit)
  join := fun k v => ((k.1, (k.2.1, (k.2.2, (v, ())))), ())
  sk := fun t => (t.1.1, (t.1.2.1, t.1.2.2.1))
  sv := fun t => t.1.2.2.2.1
  step := S_im_IsGround_2
  leaf := fun _ r => .s (Unit) (Unit) r (fun _ => .l (.exit 2 (mkSt ({ slots := [], sh := .nil, obs := [] }) ((), ())))) (fun _ => .l (.ret (mkSt ({ slots := [2], sh := (.cons (.dat .bool) .nil), obs := [] }) ((false, ()), ()))))
noncomputable def T_im_IsGround (a1_ : List (List (Int))) : Tr (Bool) :=
  .t (decide ((7 : Int) < ((List.length a1_ : Nat) : Int)))
    (.l false)
    (.c ((Unit) ⊕ (Unit)) (L_im_IsGround_0 (a1_, (a1_, ((List.length a1_ : Nat) : Int))) (0 : Int)) fun r8_ =>
      .s (Unit) (Unit) r8_
        (fun _ => .c ((Unit) ⊕ (Unit)) (L_im_IsGround_2 (a1_, (a1_, ((List.length a1_ : Nat) : Int))) (0 : Int)) fun r32_ =>
          .s (Unit) (Unit) r32_
            (fun _ => .l true)
            (fun _ => .l false))
        (fun _ => .l false))
noncomputable def F_im_IsGround (a1_ : List (List (Int))) : Option (Bool) := (T_im_IsGround a1_).ev
noncomputable def A_im_IsGround : Sh := (.cons (.dat (.slice (.slice (.int .i64)))) .nil)
noncomputable def I_im_IsGround : List (Nat × OSh) := []
noncomputable def K_im_IsGround : RetK := { acts := [], res := [.tmp 2], sh := (.cons (.dat .bool) .nil), obs := [], pins := [] }
noncomputable def D_im_IsGround : FD where
  A := A_im_IsGround
  ins := I_im_IsGround
  lend := []
  R := Bool
  F := fun x => F_im_IsGround x.1.1
  emb := fun r => ([.dat .bool r], [])
noncomputable def E_im_IsGround : Env := envOf [(133, D_im_areBetween)]
noncomputable def Z_im_IsGround : Nat → Nat → List Nat := fun _ _ => []
noncomputable def O_im_IsGround : List (Nat × LD) := [(0, DL_im_IsGround_0), (4, DL_im_IsGround_4), (2, DL_im_IsGround_2)]
noncomputable def C_im_IsGround : Code := (f66.body).getD .skip
noncomputable def T_im_isNet (a1_ : List (List (Int))) : Tr (Bool) :=
  .c (Bool) (F_im_IsGround a1_) fun r1_ =>
  .t r1_
    (.l (decide (((List.length a1_ : Nat) : Int) ≤ (5 : Int))))
    (.l false)
noncomputable def F_im_isNet (a1_ : List (List (Int))) : Option (Bool) := (T_im_isNet a1_).ev
noncomputable def A_im_isNet : Sh := (.cons (.dat (.slice (.slice (.int .i64)))) .nil)
noncomputable def I_im_isNet : List (Nat × OSh) := []
noncomputable def K_im_isNet : RetK := { acts := [], res := [.tmp 2], sh := (.cons (.dat .bool) .nil), obs := [], pins := [] }
noncomputable def D_im_isNet : FD where
  A := A_im_isNet
  ins := I_im_isNet
  lend := []
  R := Bool
  F := fun x => F_im_isNet x.1.1
  emb := fun r => ([.dat .bool r], [])
noncomputable def E_im_isNet : Env := envOf [(66, D_im_IsGround)]
noncomputable def Z_im_isNet : Nat → Nat → List Nat := fun _ _ => []
noncomputable def O_im_isNet : List (Nat × LD) := []
noncomputable def C_im_isNet : Code := (f86.body).getD .skip
noncomputable def S_slices_IndexFunc_SSint_Sint_0 (k : (List (List (Int))) × (((HL [(.slice (.int .i64))] → Option (Bool))) × (Int))) (v : Int) : Tr ((Int) ⊕ ((Unit) ⊕ (Int))) :=
  .t (decide (v < k.2.2))
    (.g (inR v (List.length k.1)) <|
      .c (Bool) (k.2.1 ((List.getD k.1 (Int.toNat v) ([] : List (Int))), ())) fun r5_ =>
      .t r5_
        (.l (.inr (.inr v)))
        (.l (.inl (IntKind.wrap .i64 (v + (1 : Int))))))
    (.l (.inr (.inl ())))
noncomputable def L_slices_IndexFunc_SSint_Sint_0 (k : (List (List (Int))) × (((HL [(.slice (.int .i64))] → Option (Bool))) × (Int))) (v : Int) : Option ((Unit) ⊕ (Int)) := iter (fun v => (S_slices_IndexFunc_SSint_Sint_0 k v).ev) v
noncomputable def DL_slices_IndexFunc_SSint_Sint_0 : LD where
  head := { acts := [], S := { slots := [0, 1, 7, 8], sh := (.cons (.dat (.slice (.slice (.int .i64)))) (.cons (.clo [(.slice (.int .i64))] .bool) (.cons (.dat (.int .i64)) (.cons (.dat (.int .i64)) .nil)))), obs := [] } }
  exits := [(0, { acts := [], S := { slots := [], sh := .nil, obs := [] } })]
  rets := { acts := [], S := { slots := [4], sh := (.cons (.dat (.int .i64)) .nil), obs := [] } }
  K := (List (List (Int))) × (((HL [(.slice (.int .i64))] → Option (Bool))) × (Int))
  V := Int
  R := (Unit) ⊕ (Int)
  join := fun k v => ((k.1, (k.2.1, (k.2.2, (v, ())))), ())
  sk := fun t => (t.1.1, (t.1.2.1, t.1.2.2.1))
  sv := fun t => t.1.2.2.2.1
  step := S_slices_IndexFunc_SSint_Sint_0
  leaf := fun _ r => .s (Unit) (Int) r (fun _ => .l (.exit 0 (mkSt ({ slots := [], sh := .nil, obs := [] }) ((), ())))) (fun b => .l (.ret (mkSt ({ slots := [4], sh := (.cons (.dat (.int .i64)) .nil), obs := [] }) ((b, ()), ()))))
noncomputable def T_slices_IndexFunc_SSint_Sint (a1_ : List (List (Int))) (a2_ : (HL [(.slice (.int .i64))] → Option (Bool))) : Tr (Int) :=
  .c ((Unit) ⊕ (Int)) (L_slices_IndexFunc_SSint_Sint_0 (a1_, (a2_, ((List.length a1_ : Nat) : Int))) (0 : Int)) fun r7_ =>
  .s (Unit) (Int) r7_
    (fun _ => .l (-1 : Int))
    (fun r9_ => .l r9_)
noncomputable def F_slices_IndexFunc_SSint_Sint (a1_ : List (List (Int))) (a2_ : (HL [(.slice (.int .i64))] → Option (Bool))) : Option (Int) := (T_slices_IndexFunc_SSint_Sint a1_ a2_).ev
noncomputable def A_slices_IndexFunc_SSint_Sint : Sh := (.cons (.dat (.slice (.slice (.int .i64)))) (.cons (.clo [(.slice (.int .i64))] .bool) .nil))
noncomputable def I_slices_IndexFunc_SSint_Sint : List (Nat × OSh) := []
noncomputable def K_slices_IndexFunc_SSint_Sint : RetK := { acts := [], res := [.tmp 4], sh := (.cons (.dat (.int .i64)) .nil), obs := [], pins := [] }
noncomputable def D_slices_IndexFunc_SSint_Sint : FD where
  A := A_slices_IndexFunc_SSint_Sint
  ins := I_slices_IndexFunc_SSint_Sint
  lend := []
  R := Int
  F := fun x => F_slices_IndexFunc_SSint_Sint x.1.1 x.1.2.1
  emb := fun r => ([.dat (.int .i64) r], [])
noncomputable def E_slices_IndexFunc_SSint_Sint : Env := envOf []
noncomputable def Z_slices_IndexFunc_SSint_Sint : Nat → Nat → List Nat := fun _ _ => []
noncomputable def O_slices_IndexFunc_SSint_Sint : List (Nat × LD) := [(0, DL_slices_IndexFunc_SSint_Sint_0)]
noncomputable def C_slices_IndexFunc_SSint_Sint : Code := (f179.body).getD .skip
noncomputable def T_slices_ContainsFunc_SSint_Sint (a1_ : List (List (Int))) (a2_ : (HL [(.slice (.int .i64))] → Option (Bool))) : Tr (Bool) :=
  .c (Int) (F_slices_IndexFunc_SSint_Sint a1_ a2_) fun r1_ =>
  .l (decide ((0 : Int) ≤ r1_))
noncomputable def F_slices_ContainsFunc_SSint_Sint (a1_ : List (List (Int))) (a2_ : (HL [(.slice (.int .i64))] → Option (Bool))) : Option (Bool) := (T_slices_ContainsFunc_SSint_Sint a1_ a2_).ev
noncomputable def A_slices_ContainsFunc_SSint_Sint : Sh := (.cons (.dat (.slice (.slice (.int .i64)))) (.cons (.clo [(.slice (.int .i64))] .bool) .nil))
noncomputable def I_slices_ContainsFunc_SSint_Sint : List (Nat × OSh) := []
noncomputable def K_slices_ContainsFunc_SSint_Sint : RetK := { acts := [], res := [.tmp 4], sh := (.cons (.dat .bool) .nil), obs := [], pins := [] }
noncomputable def D_slices_ContainsFunc_SSint_Sint : FD where
  A := A_slices_ContainsFunc_SSint_Sint
  ins := I_slices_ContainsFunc_SSint_Sint
  lend := []
  R := Bool
  F := fun x => F_slices_ContainsFunc_SSint_Sint x.1.1 x.1.2.1
  emb := fun r => ([.dat .bool r], [])
noncomputable def E_slices_ContainsFunc_SSint_Sint : Env := envOf [(179, D_slices_IndexFunc_SSint_Sint)]
noncomputable def Z_slices_ContainsFunc_SSint_Sint : Nat → Nat → List Nat := fun _ _ => []
noncomputable def O_slices_ContainsFunc_SSint_Sint : List (Nat × LD) := []
noncomputable def C_slices_ContainsFunc_SSint_Sint : Code := (f144.body).getD .skip
noncomputable def T_im_areFlows_1 (a1_ : List (Int)) (a2_ : List (List (Int))) : Tr (Bool) :=
  .t (((List.length a1_ : Nat) : Int) != ((List.length a2_ : Nat) : Int))
    (.l true)
    (.c (Bool) (F_im_areBetween a1_ (0 : Int) (99 : Int)) fun r1_ =>
      .l (!r1_))
noncomputable def F_im_areFlows_1 (a1_ : List (Int)) (a2_ : List (List (Int))) : Option (Bool) := (T_im_areFlows_1 a1_ a2_).ev
noncomputable def A_im_areFlows_1 : Sh := (.cons (.dat (.slice (.int .i64))) (.cons (.ptr (.cons (.dat (.slice (.slice (.int .i64)))) .nil)) .nil))
noncomputable def I_im_areFlows_1 : List (Nat × OSh) := []
noncomputable def K_im_areFlows_1 : RetK := { acts := [], res := [.tmp 3], sh := (.cons (.dat .bool) .nil), obs := [], pins := [] }
noncomputable def D_im_areFlows_1 : FD where
  A := A_im_areFlows_1
  ins := I_im_areFlows_1
  lend := []
  R := Bool
  F := fun x => F_im_areFlows_1 x.1.1 x.1.2.1.1
  emb := fun r => ([.dat .bool r], [])
noncomputable def E_im_areFlows_1 : Env := envOf [(133, D_im_areBetween)]
noncomputable def Z_im_areFlows_1 : Nat → Nat → List Nat := fun _ _ => []
noncomputable def O_im_areFlows_1 : List (Nat × LD) := []
noncomputable def C_im_areFlows_1 : Code := (f145.body).getD .skip
noncomputable def T_im_areFlows (a1_ : List (List (Int))) (a2_ : List (List (Int))) : Tr (Bool) :=
  .t (((List.length a2_ : Nat) : Int) == ((List.length a1_ : Nat) : Int))
    (.c (Bool) (F_slices_ContainsFunc_SSint_Sint a2_ (fun h1_ => Option.bind (F_im_areFlows_1 h1_.1 a1_) fun y2_ => some y2_)) fun r3_ =>
      .l (!r3_))
    (.l false)
noncomputable def F_im_areFlows (a1_ : List (List (Int))) (a2_ : List (List (Int))) : Option (Bool) := (T_im_areFlows a1_ a2_).ev
noncomputable def A_im_areFlows : Sh := (.cons (.dat (.slice (.slice (.int .i64)))) (.cons (.dat (.slice (.slice (.int .i64)))) .nil))
noncomputable def I_im_areFlows : List (Nat × OSh) := []
noncomputable def K_im_areFlows : RetK := { acts := [], res := [.tmp 4], sh := (.cons (.dat .bool) .nil), obs := [], pins := [] }
noncomputable def D_im_areFlows : FD where
  A := A_im_areFlows
  ins := I_im_areFlows
  lend := []
  R := Bool
  F := fun x => F_im_areFlows x.1.1 x.1.2.1
  emb := fun r => ([.dat .bool r], [])
noncomputable def E_im_areFlows : Env := envOf [(144, D_slices_ContainsFunc_SSint_Sint), (144, D_slices_ContainsFunc_SSint_Sint), (145, D_im_areFlows_1)]
noncomputable def Z_im_areFlows : Nat → Nat → List Nat := fun _ _ => []
noncomputable def O_im_areFlows : List (Nat × LD) := []
noncomputable def C_im_areFlows : Code := (f87.body).getD .skip
noncomputable def T_im_isAllocation_1 (a1_ : Int) (a2_ : List (Int)) : Tr (Bool) :=
  .g (inR a1_ (List.length a2_)) <|
  .l ((List.getD a2_ (Int.toNat a1_) (0 : Int)) != a1_)
noncomputable def F_im_isAllocation_1 (a1_ : Int) (a2_ : List (Int)) : Option (Bool) := (T_im_isAllocation_1 a1_ a2_).ev
noncomputable def A_im_isAllocation_1 : Sh := (.cons (.dat (.int .i64)) (.cons (.ptr (.cons (.dat (.slice (.int .i64))) .nil)) .nil))
noncomputable def I_im_isAllocation_1 : List (Nat × OSh) := []
noncomputable def K_im_isAllocation_1 : RetK := { acts := [], res := [.tmp 3], sh := (.cons (.dat .bool) .nil), obs := [], pins := [] }
noncomputable def D_im_isAllocation_1 : FD where
  A := A_im_isAllocation_1
  ins := I_im_isAllocation_1
  lend := []
  R := Bool
  F := fun x => F_im_isAllocation_1 x.1.1 x.1.2.1.1
  emb := fun r => ([.dat .bool r], [])
noncomputable def E_im_isAllocation_1 : Env := envOf []
noncomputable def Z_im_isAllocation_1 : Nat → Nat → List Nat := fun _ _ => []
noncomputable def O_im_isAllocation_1 : List (Nat × LD) := []
noncomputable def C_im_isAllocation_1 : Code := (f146.body).getD .skip
noncomputable def T_im_isAllocation (a1_ : Int) (a2_ : List (Int)) : Tr (Bool) :=
  .t (((List.length a2_ : Nat) : Int) == a1_)
    (.c (Bool) (F_im_areBetween a2_ (0 : Int) (IntKind.wrap .i64 (a1_ - (1 : Int)))) fun r1_ =>
      .t r1_
        (.c (Bool) (F_slices_ContainsFunc_Sint_int a2_ (fun h2_ => Option.bind (F_im_isAllocation_1 h2_.1 a2_) fun y3_ => some y3_)) fun r4_ =>
          .l (!r4_))
        (.l false))
    (.l false)
noncomputable def F_im_isAllocation (a1_ : Int) (a2_ : List (Int)) : Option (Bool) := (T_im_isAllocation a1_ a2_).ev
noncomputable def A_im_isAllocation : Sh := (.cons (.dat (.int .i64)) (.cons (.dat (.slice (.int .i64))) .nil))
noncomputable def I_im_isAllocation : List (Nat × OSh) := []
noncomputable def K_im_isAllocation : RetK := { acts := [], res := [.tmp 4], sh := (.cons (.dat .bool) .nil), obs := [], pins := [] }
noncomputable def D_im_isAllocation : FD where
  A := A_im_isAllocation
  ins := I_im_isAllocation
  lend := []
  R := Bool
  F := fun x => F_im_isAllocation x.1.1 x.1.2.1
  emb := fun r => ([.dat .bool r], [])
noncomputable def E_im_isAllocation : Env := envOf [(133, D_im_areBetween), (99, D_slices_ContainsFunc_Sint_int), (99, D_slices_ContainsFunc_Sint_int), (146, D_im_isAllocation_1)]
noncomputable def Z_im_isAllocation : Nat → Nat → List Nat := fun _ _ => []
noncomputable def O_im_isAllocation : List (Nat × LD) := []
noncomputable def C_im_isAllocation : Code := (f89.body).getD .skip
noncomputable def S_im_bagOf_0 (k : (List (Int)) × (Int)) (v : (Int) × (Int)) : Tr (((Int) × (Int)) ⊕ (Int)) :=
  .t (decide (v.2 < k.2))
    (.g (inR v.2 (List.length k.1)) <|
      .g (decide ((0 : Int) ≤ (List.getD k.1 (Int.toNat v.2) (0 : Int)))) <|
      .l (.inl ((IntKind.wrap .u64 (BitVec.toNat ((BitVec.ofInt (IntKind.bits .u64) v.1) ||| (BitVec.ofInt (IntKind.bits .u64) (IntKind.wrap .u64 ((1 : Int) * 2 ^ (min (Int.toNat (List.getD k.1 (Int.toNat v.2) (0 : Int))) (IntKind.bits .u64)))))))), (IntKind.wrap .i64 (v.2 + (1 : Int))))))
    (.l (.inr v.1))
noncomputable def L_im_bagOf_0 (k : (List (Int)) × (Int)) (v : (Int) × (Int)) : Option (Int) := iter (fun v => (S_im_bagOf_0 k v).ev) v
noncomputable def DL_im_bagOf_0 : LD where
  head := { acts := [], S := { slots := [3, 6, 7, 8], sh := (.cons (.dat (.int .u64)) (.cons (.dat (.slice (.int .i64))) (.cons (.dat (.int .i64)) (.cons (.dat (.int .i64)) .nil)))), obs := [] } }
  exits := [(0, { acts := [], S := { slots := [3], sh := (.cons (.dat (.int .u64)) .nil), obs := [] } })]
  rets := { acts := [], S := { slots := [], sh := .nil, obs := [] } }
  K := (List (Int)) × (Int)
  V := (Int) × (Int)
  R := Int
  join := fun k v => ((v.1, (k.1, (k.2, (v.2, ())))), ())
  sk := fun t => (t.1.2.1, t.1.2.2.1)
  sv := fun t => (t.1.1, t.1.2.2.2.1)
  step := S_im_bagOf_0
  leaf := fun _ r => .l (.exit 0 (mkSt ({ slots := [3], sh := (.cons (.dat (.int .u64)) .nil), obs := [] }) ((r, ()), ())))
noncomputable def T_im_bagOf (a1_ : List (Int)) : Tr (Int) :=
  .c (Int) (L_im_bagOf_0 (a1_, ((List.length a1_ : Nat) : Int)) ((0 : Int), (0 : Int))) fun r6_ =>
  .l r6_
noncomputable def F_im_bagOf (a1_ : List (Int)) : Option (Int) := (T_im_bagOf a1_).ev
noncomputable def A_im_bagOf : Sh := (.cons (.dat (.slice (.int .i64))) .nil)
noncomputable def I_im_bagOf : List (Nat × OSh) := []
noncomputable def K_im_bagOf : RetK := { acts := [], res := [.tmp 2], sh := (.cons (.dat (.int .u64)) .nil), obs := [], pins := [] }
noncomputable def D_im_bagOf : FD where
  A := A_im_bagOf
  ins := I_im_bagOf
  lend := []
  R := Int
  F := fun x => F_im_bagOf x.1.1
  emb := fun r => ([.dat (.int .u64) r], [])
noncomputable def E_im_bagOf : Env := envOf []
noncomputable def Z_im_bagOf : Nat → Nat → List Nat := fun _ _ => []
noncomputable def O_im_bagOf : List (Nat × LD) := [(0, DL_im_bagOf_0)]
noncomputable def C_im_bagOf : Code := (f90.body).getD .skip
noncomputable def T_math_bits_OnesCount64 (a1_ : Int) : Tr (Int) :=
  .g (decide ((0 : Int) ≤ (1 : Int))) <|
  .g (decide ((0 : Int) ≤ (2 : Int))) <|
  .g (decide ((0 : Int) ≤ (4 : Int))) <|
  .g (decide ((0 : Int) ≤ (8 : Int))) <|
  .g (decide ((0 : Int) ≤ (16 : Int))) <|
  .g (decide ((0 : Int) ≤ (32 : Int))) <|
  .l (IntKind.wrap .i64 (BitVec.toNat ((BitVec.ofInt (IntKind.bits .i64) (IntKind.wrap .i64 (IntKind.wrap .u64 ((IntKind.wrap .u64 ((IntKind.wrap .u64 ((IntKind.wrap .u64 (BitVec.toNat ((BitVec.ofInt (IntKind.bits .u64) (IntKind.wrap .u64 ((Int.fdiv (IntKind.wrap .u64 ((IntKind.wrap .u64 (BitVec.toNat ((BitVec.ofInt (IntKind.bits .u64) (Int.fdiv (IntKind.wrap .u64 ((IntKind.wrap .u64 (BitVec.toNat ((BitVec.ofInt (IntKind.bits .u64) (Int.fdiv a1_ (2 ^ (min (Int.toNat (1 : Int)) (IntKind.bits .u64))))) &&& (BitVec.ofInt (IntKind.bits .u64) (6148914691236517205 : Int))))) + (IntKind.wrap .u64 (BitVec.toNat ((BitVec.ofInt (IntKind.bits .u64) a1_) &&& (BitVec.ofInt (IntKind.bits .u64) (6148914691236517205 : Int))))))) (2 ^ (min (Int.toNat (2 : Int)) (IntKind.bits .u64))))) &&& (BitVec.ofInt (IntKind.bits .u64) (3689348814741910323 : Int))))) + (IntKind.wrap .u64 (BitVec.toNat ((BitVec.ofInt (IntKind.bits .u64) (IntKind.wrap .u64 ((IntKind.wrap .u64 (BitVec.toNat ((BitVec.ofInt (IntKind.bits .u64) (Int.fdiv a1_ (2 ^ (min (Int.toNat (1 : Int)) (IntKind.bits .u64))))) &&& (BitVec.ofInt (IntKind.bits .u64) (6148914691236517205 : Int))))) + (IntKind.wrap .u64 (BitVec.toNat ((BitVec.ofInt (IntKind.bits .u64) a1_) &&& (BitVec.ofInt (IntKind.bits .u64) (6148914691236517205 : Int)))))))) &&& (BitVec.ofInt (IntKind.bits .u64) (3689348814741910323 : Int))))))) (2 ^ (min (Int.toNat (4 : Int)) (IntKind.bits .u64)))) + (IntKind.wrap .u64 ((IntKind.wrap .u64 (BitVec.toNat ((BitVec.ofInt (IntKind.bits .u64) (Int.fdiv (IntKind.wrap .u64 ((IntKind.wrap .u64 (BitVec.toNat ((BitVec.ofInt (IntKind.bits .u64) (Int.fdiv a1_ (2 ^ (min (Int.toNat (1 : Int)) (IntKind.bits .u64))))) &&& (BitVec.ofInt (IntKind.bits .u64) (6148914691236517205 : Int))))) + (IntKind.wrap .u64 (BitVec.toNat ((BitVec.ofInt (IntKind.bits .u64) a1_) &&& (BitVec.ofInt (IntKind.bits .u64) (6148914691236517205 : Int))))))) (2 ^ (min (Int.toNat (2 : Int)) (IntKind.bits .u64))))) &&& (BitVec.ofInt (IntKind.bits .u64) (3689348814741910323 : Int))))) + (IntKind.wrap .u64 (BitVec.toNat ((BitVec.ofInt (IntKind.bits .u64) (IntKind.wrap .u64 ((IntKind.wrap .u64 (BitVec.toNat ((BitVec.ofInt (IntKind.bits .u64) (Int.fdiv a1_ (2 ^ (min (Int.toNat (1 : Int)) (IntKind.bits .u64))))) &&& (BitVec.ofInt (IntKind.bits .u64) (6148914691236517205 : Int))))) + (IntKind.wrap .u64 (BitVec.toNat ((BitVec.ofInt (IntKind.bits .u64) a1_) &&& (BitVec.ofInt (IntKind.bits .u64) (6148914691236517205 : Int)))))))) &&& (BitVec.ofInt (IntKind.bits .u64) (3689348814741910323 : Int)))))))))) &&& (BitVec.ofInt (IntKind.bits .u64) (1085102592571150095 : Int))))) + (Int.fdiv (IntKind.wrap .u64 (BitVec.toNat ((BitVec.ofInt (IntKind.bits .u64) (IntKind.wrap .u64 ((Int.fdiv (IntKind.wrap .u64 ((IntKind.wrap .u64 (BitVec.toNat ((BitVec.ofInt (IntKind.bits .u64) (Int.fdiv (IntKind.wrap .u64 ((IntKind.wrap .u64 (BitVec.toNat ((BitVec.ofInt (IntKind.bits .u64) (Int.fdiv a1_ (2 ^ (min (Int.toNat (1 : Int)) (IntKind.bits .u64))))) &&& (BitVec.ofInt (IntKind.bits .u64) (6148914691236517205 : Int))))) + (IntKind.wrap .u64 (BitVec.toNat ((BitVec.ofInt (IntKind.bits .u64) a1_) &&& (BitVec.ofInt (IntKind.bits .u64) (6148914691236517205 : Int))))))) (2 ^ (min (Int.toNat (2 : Int)) (IntKind.bits .u64))))) &&& (BitVec.ofInt (IntKind.bits .u64) (3689348814741910323 : Int))))) + (IntKind.wrap .u64 (BitVec.toNat ((BitVec.ofInt (IntKind.bits .u64) (IntKind.wrap .u64 ((IntKind.wrap .u64 (BitVec.toNat ((BitVec.ofInt (IntKind.bits .u64) (Int.fdiv a1_ (2 ^ (min (Int.toNat (1 : Int)) (IntKind.bits .u64))))) &&& (BitVec.ofInt (IntKind.bits .u64) (6148914691236517205 : Int))))) + (IntKind.wrap .u64 (BitVec.toNat ((BitVec.ofInt (IntKind.bits .u64) a1_) &&& (BitVec.ofInt (IntKind.bits .u64) (6148914691236517205 : Int)))))))) &&& (BitVec.ofInt (IntKind.bits .u64) (3689348814741910323 : Int))))))) (2 ^ (min (Int.toNat (4 : Int)) (IntKind.bits .u64)))) + (IntKind.wrap .u64 ((IntKind.wrap .u64 (BitVec.toNat ((BitVec.ofInt (IntKind.bits .u64) (Int.fdiv (IntKind.wrap .u64 ((IntKind.wrap .u64 (BitVec.toNat ((BitVec.ofInt (IntKind.bits .u64) (Int.fdiv a1_ (2 ^ (min (Int.toNat (1 : Int)) (IntKind.bits .u64))))) &&& (BitVec.ofInt (IntKind.bits .u64) (6148914691236517205 : Int))))) + (IntKind.wrap .u64 (BitVec.toNat ((BitVec.ofInt (IntKind.bits .u64) a1_) &&& (BitVec.ofInt (IntKind.bits .u64) (6148914691236517205 : Int))))))) (2 ^ (min (Int.toNat (2 : Int)) (IntKind.bits .u64))))) &&& (BitVec.ofInt (IntKind.bits .u64) (3689348814741910323 : Int))))) + (IntKind.wrap .u64 (BitVec.toNat ((BitVec.ofInt (IntKind.bits .u64) (IntKind.wrap .u64 ((IntKind.wrap .u64 (BitVec.toNat ((BitVec.ofInt (IntKind.bits .u64) (Int.fdiv a1_ (2 ^ (min (Int.toNat (1 : Int)) (IntKind.bits .u64))))) &&& (BitVec.ofInt (IntKind.bits .u64) (6148914691236517205 : Int))))) + (IntKind.wrap .u64 (BitVec.toNat ((BitVec.ofInt (IntKind.bits .u64) a1_) &&& (BitVec.ofInt (IntKind.bits .u64) (6148914691236517205 : Int)))))))) &&& (BitVec.ofInt (IntKind.bits .u64) (3689348814741910323 : Int)))))))))) &&& (BitVec.ofInt (IntKind.bits .u64) (1085102592571150095 : Int))))) (2 ^ (min (Int.toNat (8 : Int)) (IntKind.bits .u64)))))) + (Int.fdiv (IntKind.wrap .u64 ((IntKind.wrap .u64 (BitVec.toNat ((BitVec.ofInt (IntKind.bits .u64) (IntKind.wrap .u64 ((Int.fdiv (IntKind.wrap .u64 ((IntKind.wrap .u64 (BitVec.toNat ((BitVec.ofInt (IntKind.bits .u64) (Int.fdiv (IntKind.wrap .u64 ((IntKind.wrap .u64 (BitVec.toNat ((BitVec.ofInt (IntKind.bits .u64) (Int.fdiv a1_ (2 ^ (min (Int.toNat (1 : Int)) (IntKind.bits .u64))))) &&& (BitVec.ofInt (IntKind.bits .u64) (6148914691236517205 : Int))))) + (IntKind.wrap .u64 (BitVec.toNat ((BitVec.ofInt (IntKind.bits .u64) a1_) &&& (BitVec.ofInt (IntKind.bits .u64) (6148914691236517205 : Int))))))) (2 ^ (min (Int.toNat (2 : Int)) (IntKind.bits .u64))))) &&& (BitVec.ofInt (IntKind.bits .u64) (3689348814741910323 : Int))))) + (IntKind.wrap .u64 (BitVec.toNat ((BitVec.ofInt (IntKind.bits .u64) (IntKind.wrap .u64 ((IntKind.wrap .u64 (BitVec.toNat ((BitVec.ofInt (IntKind.bits .u64) (Int.fdiv a1_ (2 ^ (min (Int.toNat (1 : Int)) (IntKind.bits .u64))))) &&& (BitVec.ofInt (IntKind.bits .u64) (6148914691236517205 : Int))))) + (IntKind.wrap .u64 (BitVec.toNat ((BitVec.ofInt (IntKind.bits .u64) a1_) &&& (BitVec.ofInt (IntKind.bits .u64) (6148914691236517205 : Int)))))))) &&& (BitVec.ofInt (IntKind.bits .u64) (3689348814741910323 : Int))))))) (2 ^ (min (Int.toNat (4 : Int)) (IntKind.bits .u64)))) + (IntKind.wrap .u64 ((IntKind.wrap .u64 (BitVec.toNat ((BitVec.ofInt (IntKind.bits .u64) (Int.fdiv (IntKind.wrap .u64 ((IntKind.wrap .u64 (BitVec.toNat ((BitVec.ofInt (IntKind.bits .u64) (Int.fdiv a1_ (2 ^ (min (Int.toNat (1 : Int)) (IntKind.bits .u64))))) &&& (BitVec.ofInt (IntKind.bits .u64) (6148914691236517205 : Int))))) + (IntKind.wrap .u64 (BitVec.toNat ((BitVec.ofInt (IntKind.bits .u64) a1_) &&& (BitVec.ofInt (IntKind.bits .u64) (6148914691236517205 : Int))))))) (2 ^ (min (Int.toNat (2 : Int)) (IntKind.bits .u64))))) &&& (BitVec.ofInt (IntKind.bits .u64) (3689348814741910323 : Int))))) + (IntKind.wrap .u64 (BitVec.toNat ((BitVec.ofInt (IntKind.bits .u64) (IntKind.wrap .u64 ((IntKind.wrap .u64 (BitVec.toNat ((BitVec.ofInt (IntKind.bits .u64) (Int.fdiv a1_ (2 ^ (min (Int.toNat (1 : Int)) (IntKind.bits .u64))))) &&& (BitVec.ofInt (IntKind.bits .u64) (6148914691236517205 : Int))))) + (IntKind.wrap .u64 (BitVec.toNat ((BitVec.ofInt (IntKind.bits .u64) a1_) &&& (BitVec.ofInt (IntKind.bits .u64) (6148914691236517205 : Int)))))))) &&& (BitVec.ofInt (IntKind.bits .u64) (3689348814741910323 : Int)))))))))) &&& (BitVec.ofInt (IntKind.bits .u64) (1085102592571150095 : Int))))) + (Int.fdiv (IntKind.wrap .u64 (BitVec.toNat ((BitVec.ofInt (IntKind.bits .u64) (IntKind.wrap .u64 ((Int.fdiv (IntKind.wrap .u64 ((IntKind.wrap .u64 (BitVec.toNat ((BitVec.ofInt (IntKind.bits .u64) (Int.fdiv (IntKind.wrap .u64 ((IntKind.wrap .u64 (BitVec.toNat ((BitVec.ofInt (IntKind.bits .u64) (Int.fdiv a1_ (2 ^ (min (Int.toNat (1 : Int)) (IntKind.bits .u64))))) &&& (BitVec.ofInt (IntKind.bits .u64) (6148914691236517205 : Int))))) + (IntKind.wrap .u64 (BitVec.toNat ((BitVec.ofInt (IntKind.bits .u64) a1_) &&& (BitVec.ofInt (IntKind.bits .u64) (6148914691236517205 : Int))))))) (2 ^ (min (Int.toNat (2 : Int)) (IntKind.bits .u64))))) &&& (BitVec.ofInt (IntKind.bits .u64) (3689348814741910323 : Int))))) + (IntKind.wrap .u64 (BitVec.toNat ((BitVec.ofInt (IntKind.bits .u64) (IntKind.wrap .u64 ((IntKind.wrap .u64 (BitVec.toNat ((BitVec.ofInt (IntKind.bits .u64) (Int.fdiv a1_ (2 ^ (min (Int.toNat (1 : Int)) (IntKind.bits .u64))))) &&& (BitVec.ofInt (IntKind.bits .u64) (6148914691236517205 : Int))))) + (IntKind.wrap .u64 (BitVec.toNat ((BitVec.ofInt (IntKind.bits .u64) a1_) &&& (BitVec.ofInt (IntKind.bits .u64) (6148914691236517205 : Int)))))))) &&& (BitVec.ofInt (IntKind.bits .u64) (3689348814741910323 : Int))))))) (2 ^ (min (Int.toNat (4 : Int)) (IntKind.bits .u64)))) + (IntKind.wrap .u64 ((IntKind.wrap .u64 (BitVec.toNat ((BitVec.ofInt (IntKind.bits .u64) (Int.fdiv (IntKind.wrap .u64 ((IntKind.wrap .u64 (BitVec.toNat ((BitVec.ofInt (IntKind.bits .u64) (Int.fdiv a1_ (2 ^ (min (Int.toNat (1 : Int)) (IntKind.bits .u64))))) &&& (BitVec.ofInt (IntKind.bits .u64) (6148914691236517205 : Int))))) + (IntKind.wrap .u64 (BitVec.toNat ((BitVec.ofInt (IntKind.bits .u64) a1_) &&& (BitVec.ofInt (IntKind.bits .u64) (6148914691236517205 : Int))))))) (2 ^ (min (Int.toNat (2 : Int)) (IntKind.bits .u64))))) &&& (BitVec.ofInt (IntKind.bits .u64) (3689348814741910323 : Int))))) + (IntKind.wrap .u64 (BitVec.toNat ((BitVec.ofInt (IntKind.bits .u64) (IntKind.wrap .u64 ((IntKind.wrap .u64 (BitVec.toNat ((BitVec.ofInt (IntKind.bits .u64) (Int.fdiv a1_ (2 ^ (min (Int.toNat (1 : Int)) (IntKind.bits .u64))))) &&& (BitVec.ofInt (IntKind.bits .u64) (6148914691236517205 : Int))))) + (IntKind.wrap .u64 (BitVec.toNat ((BitVec.ofInt (IntKind.bits .u64) a1_) &&& (BitVec.ofInt (IntKind.bits .u64) (6148914691236517205 : Int)))))))) &&& (BitVec.ofInt (IntKind.bits .u64) (3689348814741910323 : Int)))))))))) &&& (BitVec.ofInt (IntKind.bits .u64) (1085102592571150095 : Int))))) (2 ^ (min (Int.toNat (8 : Int)) (IntKind.bits .u64)))))) (2 ^ (min (Int.toNat (16 : Int)) (IntKind.bits .u64)))))) + (Int.fdiv (IntKind.wrap .u64 ((IntKind.wrap .u64 ((IntKind.wrap .u64 (BitVec.toNat ((BitVec.ofInt (IntKind.bits .u64) (IntKind.wrap .u64 ((Int.fdiv (IntKind.wrap .u64 ((IntKind.wrap .u64 (BitVec.toNat ((BitVec.ofInt (IntKind.bits .u64) (Int.fdiv (IntKind.wrap .u64 ((IntKind.wrap .u64 (BitVec.toNat ((BitVec.ofInt (IntKind.bits .u64) (Int.fdiv a1_ (2 ^ (min (Int.toNat (1 : Int)) (IntKind.bits .u64))))) &&& (BitVec.ofInt (IntKind.bits .u64) (6148914691236517205 : Int))))) + (IntKind.wrap .u64 (BitVec.toNat ((BitVec.ofInt (IntKind.bits .u64) a1_) &&& (BitVec.ofInt (IntKind.bits .u64) (6148914691236517205 : Int))))))) (2 ^ (min (Int.toNat (2 : Int)) (IntKind.bits .u64))))) &&& (BitVec.ofInt (IntKind.bits .u64) (3689348814741910323 : Int))))) + (IntKind.wrap .u64 (BitVec.toNat ((BitVec.ofInt (IntKind.bits .u64) (IntKind.wrap .u64 ((IntKind.wrap .u64 (BitVec.toNat ((BitVec.ofInt (IntKind.bits .u64) (Int.fdiv a1_ (2 ^ (min (Int.toNat (1 : Int)) (IntKind.bits .u64))))) &&& (BitVec.ofInt (IntKind.bits .u64) (6148914691236517205 : Int))))) + (IntKind.wrap .u64 (BitVec.toNat ((BitVec.ofInt (IntKind.bits .u64) a1_) &&& (BitVec.ofInt (IntKind.bits .u64) (6148914691236517205 : Int)))))))) &&& (BitVec.ofInt (IntKind.bits .u64) (3689348814741910323 : Int))))))) (2 ^ (min (Int.toNat (4 : Int)) (IntKind.bits .u64)))) + (IntKind.wrap .u64 ((IntKind.wrap .u64 (BitVec.toNat ((BitVec.ofInt (IntKind.bits .u64) (Int.fdiv (IntKind.wrap .u64 ((IntKind.wrap .u64 (BitVec.toNat ((BitVec.ofInt (IntKind.bits .u64) (Int.fdiv a1_ (2 ^ (min (Int.toNat (1 : Int)) (IntKind.bits .u64))))) &&& (BitVec.ofInt (IntKind.bits .u64) (6148914691236517205 : Int))))) + (IntKind.wrap .u64 (BitVec.toNat ((BitVec.ofInt (IntKind.bits .u64) a1_) &&& (BitVec.ofInt (IntKind.bits .u64) (6148914691236517205 : Int))))))) (2 ^ (min (Int.toNat (2 : Int)) (IntKind.bits .u64))))) &&& (BitVec.ofInt (IntKind.bits .u64) (3689348814741910323 : Int))))) + (IntKind.wrap .u64 (BitVec.toNat ((BitVec.ofInt (IntKind.bits .u64) (IntKind.wrap .u64 ((IntKind.wrap .u64 (BitVec.toNat ((BitVec.ofInt (IntKind.bits .u64) (Int.fdiv a1_ (2 ^ (min (Int.toNat (1 : Int)) (IntKind.bits .u64))))) &&& (BitVec.ofInt (IntKind.bits .u64) (6148914691236517205 : Int))))) + (IntKind.wrap .u64 (BitVec.toNat ((BitVec.ofInt (IntKind.bits .u64) a1_) &&& (BitVec.ofInt (IntKind.bits .u64) (6148914691236517205 : Int)))))))) &&& (BitVec.ofInt (IntKind.bits .u64) (3689348814741910323 : Int)))))))))) &&& (BitVec.ofInt (IntKind.bits .u64) (1085102592571150095 : Int))))) + (Int.fdiv (IntKind.wrap .u64 (BitVec.toNat ((BitVec.ofInt (IntKind.bits .u64) (IntKind.wrap .u64 ((Int.fdiv (IntKind.wrap .u64 ((IntKind.wrap .u64 (BitVec.toNat ((BitVec.ofInt (IntKind.bits .u64) (Int.fdiv (IntKind.wrap .u64 ((IntKind.wrap .u64 (BitVec.toNat ((BitVec.ofInt (IntKind.bits .u64) (Int.fdiv a1_ (2 ^ (min (Int.toNat (1 : Int)) (IntKind.bits .u64))))) &&& (BitVec.ofInt (IntKind.bits .u64) (6148914691236517205 : Int))))) + (IntKind.wrap .u64 (BitVec.toNat ((BitVec.ofInt (IntKind.bits .u64) a1_) &&& (BitVec.ofInt (IntKind.bits .u64) (6148914691236517205 : Int))))))) (2 ^ (min (Int.toNat (2 : Int)) (IntKind.bits .u64))))) &&& (BitVec.ofInt (IntKind.bits .u64) (3689348814741910323 : Int))))) + (IntKind.wrap .u64 (BitVec.toNat ((BitVec.ofInt (IntKind.bits .u64) (IntKind.wrap .u64 ((IntKind.wrap .u64 (BitVec.toNat ((BitVec.ofInt (IntKind.bits .u64) (Int.fdiv a1_ (2 ^ (min (Int.toNat (1 : Int)) (IntKind.bits .u64))))) &&& (BitVec.ofInt (IntKind.bits .u64) (6148914691236517205 : Int))))) + (IntKind.wrap .u64 (BitVec.toNat ((BitVec.ofInt (IntKind.bits .u64) a1_) &&& (BitVec.ofInt (IntKind.bits .u64) (6148914691236517205 : Int)))))))) &&& (BitVec.ofInt (IntKind.bits .u64) (3689348814741910323 : Int))))))) (2 ^ (min (Int.toNat (4 : Int)) (IntKind.bits .u64)))) + (IntKind.wrap .u64 ((IntKind.wrap .u64 (BitVec.toNat ((BitVec.ofInt (IntKind.bits .u64) (Int.fdiv (IntKind.wrap .u64 ((IntKind.wrap .u64 (BitVec.toNat ((BitVec.ofInt (IntKind.bits .u64) (Int.fdiv a1_ (2 ^ (min (Int.toNat (1 : Int)) (IntKind.bits .u64))))) &&& (BitVec.ofInt (IntKind.bits .u64) (6148914691236517205 : Int))))) + (IntKind.wrap .u64 (BitVec.toNat ((BitVec.ofInt (IntKind.bits .u64) a1_) &&& (BitVec.ofInt (IntKind.bits .u64) (6148914691236517205 : Int))))))) (2 ^ (min (Int.toNat (2 : Int)) (IntKind.bits .u64))))) &&& (BitVec.ofInt (IntKind.bits .u64) (3689348814741910323 : Int))))) + (IntKind.wrap .u64 (BitVec.toNat ((BitVec.ofInt (IntKind.bits .u64) (IntKind.wrap .u64 ((IntKind.wrap .u64 (BitVec.toNat ((BitVec.ofInt (IntKind.bits .u64) (Int.fdiv a1_ (2 ^ (min (Int.toNat (1 : Int)) (IntKind.bits .u64))))) &&& (BitVec.ofInt (IntKind.bits .u64) (6148914691236517205 : Int))))) + (IntKind.wrap .u64 (BitVec.toNat ((BitVec.ofInt (IntKind.bits .u64) a1_) &&& (BitVec.ofInt (IntKind.bits .u64) (6148914691236517205 : Int)))))))) &&& (BitVec.ofInt (IntKind.bits .u64) (3689348814741910323 : Int)))))))))) &&& (BitVec.ofInt (IntKind.bits .u64) (1085102592571150095 : Int))))) (2 ^ (min (Int.toNat (8 : Int)) (IntKind.bits .u64)))))) + (Int.fdiv (IntKind.wrap .u64 ((IntKind.wrap .u64 (BitVec.toNat ((BitVec.ofInt (IntKind.bits .u64) (IntKind.wrap .u64 ((Int.fdiv (IntKind.wrap .u64 ((IntKind.wrap .u64 (BitVec.toNat ((BitVec.ofInt (IntKind.bits .u64) (Int.fdiv (IntKind.wrap .u64 ((IntKind.wrap .u64 (BitVec.toNat ((BitVec.ofInt (IntKind.bits .u64) (Int.fdiv a1_ (2 ^ (min (Int.toNat (1 : Int)) (IntKind.bits .u64))))) &&& (BitVec.ofInt (IntKind.bits .u64) (6148914691236517205 : Int))))) + (IntKind.wrap .u64 (BitVec.toNat ((BitVec.ofInt (IntKind.bits .u64) a1_) &&& (BitVec.ofInt (IntKind.bits .u64) (6148914691236517205 : Int))))))) (2 ^ (min (Int.toNat (2 : Int)) (IntKind.bits .u64))))) &&& (BitVec.ofInt (IntKind.bits .u64) (3689348814741910323 : Int))))) + (IntKind.wrap .u64 (BitVec.toNat ((BitVec.ofInt (IntKind.bits .u64) (IntKind.wrap .u64 ((IntKind.wrap .u64 (BitVec.toNat ((BitVec.ofInt (IntKind.bits .u64) (Int.fdiv a1_ (2 ^ (min (Int.toNat (1 : Int)) (IntKind.bits .u64))))) &&& (BitVec.ofInt (IntKind.bits .u64) (6148914691236517205 : Int))))) + (IntKind.wrap .u64 (BitVec.toNat ((BitVec.ofInt (IntKind.bits .u64) a1_) &&& (BitVec.ofInt (IntKind.bits .u64) (6148914691236517205 : Int)))))))) &&& (BitVec.ofInt (IntKind.bits .u64) (3689348814741910323 : Int))))))) (2 ^ (min (Int.toNat (4 : Int)) (IntKind.bits .u64)))) + (IntKind.wrap .u64 ((IntKind.wrap .u64 (BitVec.toNat ((BitVec.ofInt (IntKind.bits .u64) (Int.fdiv (IntKind.wrap .u64 ((IntKind.wrap .u64 (BitVec.toNat ((BitVec.ofInt (IntKind.bits .u64) (Int.fdiv a1_ (2 ^ (min (Int.toNat (1 : Int)) (IntKind.bits .u64))))) &&& (BitVec.ofInt (IntKind.bits .u64) (6148914691236517205 : Int))))) + (IntKind.wrap .u64 (BitVec.toNat ((BitVec.ofInt (IntKind.bits .u64) a1_) &&& (BitVec.ofInt (IntKind.bits .u64) (6148914691236517205 : Int))))))) (2 ^ (min (Int.toNat (2 : Int)) (IntKind.bits .u64))))) &&& (BitVec.ofInt (IntKind.bits .u64) (3689348814741910323 : Int))))) + (IntKind.wrap .u64 (BitVec.toNat ((BitVec.ofInt (IntKind.bits .u64) (IntKind.wrap .u64 ((IntKind.wrap .u64 (BitVec.toNat ((BitVec.ofInt (IntKind.bits .u64) (Int.fdiv a1_ (2 ^ (min (Int.toNat (1 : Int)) (IntKind.bits .u64))))) &&& (BitVec.ofInt (IntKind.bits .u64) (6148914691236517205 : Int))))) + (IntKind.wrap .u64 (BitVec.toNat ((BitVec.ofInt (IntKind.bits .u64) a1_) &&& (BitVec.ofInt (IntKind.bits .u64) (6148914691236517205 : Int)))))))) &&& (BitVec.ofInt (IntKind.bits .u64) (3689348814741910323 : Int)))))))))) &&& (BitVec.ofInt (IntKind.bits .u64) (1085102592571150095 : Int))))) + (Int.fdiv (IntKind.wrap .u64 (BitVec.toNat ((BitVec.ofInt (IntKind.bits .u64) (IntKind.wrap .u64 ((Int.fdiv (IntKind.wrap .u64 ((IntKind.wrap .u64 (BitVec.toNat ((BitVec.ofInt (IntKind.bits .u64) (Int.fdiv (IntKind.wrap .u64 ((IntKind.wrap .u64 (BitVec.toNat ((BitVec.ofInt (IntKind.bits .u64) (Int.fdiv a1_ (2 ^ (min (Int.toNat (1 : Int)) (IntKind.bits .u64))))) &&& (BitVec.ofInt (IntKind.bits .u64) (6148914691236517205 : Int))))) + (IntKind.wrap .u64 (BitVec.toNat ((BitVec.ofInt (IntKind.bits .u64) a1_) &&& (BitVec.ofInt (IntKind.bits .u64) (6148914691236517205 : Int))))))) (2 ^ (min (Int.toNat (2 : Int)) (IntKind.bits .u64))))) &&& (BitVec.ofInt (IntKind.bits .u64) (3689348814741910323 : Int))))) + (IntKind.wrap .u64 (BitVec.toNat ((BitVec.ofInt (IntKind.bits .u64) (IntKind.wrap .u64 ((IntKind.wrap .u64 (BitVec.toNat ((BitVec.ofInt (IntKind.bits .u64) (Int.fdiv a1_ (2 ^ (min (Int.toNat (1 : Int)) (IntKind.bits .u64))))) &&& (BitVec.ofInt (IntKind.bits .u64) (6148914691236517205 : Int))))) + (IntKind.wrap .u64 (BitVec.toNat ((BitVec.ofInt (IntKind.bits .u64) a1_) &&& (BitVec.ofInt (IntKind.bits .u64) (6148914691236517205 : Int)))))))) &&& (BitVec.ofInt (IntKind.bits .u64) (3689348814741910323 : Int))))))) (2 ^ (min (Int.toNat (4 : Int)) (IntKind.bits .u64)))) + (IntKind.wrap .u64 ((IntKind.wrap .u64 (BitVec.toNat ((BitVec.ofInt (IntKind.bits .u64) (Int.fdiv (IntKind.wrap .u64 ((IntKind.wrap .u64 (BitVec.toNat ((BitVec.ofInt (IntKind.bits .u64) (Int.fdiv a1_ (2 ^ (min (Int.toNat (1 : Int)) (IntKind.bits .u64))))) &&& (BitVec.ofInt (IntKind.bits .u64) (6148914691236517205 : Int))))) + (IntKind.wrap .u64 (BitVec.toNat ((BitVec.ofInt (IntKind.bits .u64) a1_) &&& (BitVec.ofInt (IntKind.bits .u64) (6148914691236517205 : Int))))))) (2 ^ (min (Int.toNat (2 : Int)) (IntKind.bits .u64))))) &&& (BitVec.ofInt (IntKind.bits .u64) (3689348814741910323 : Int))))) + (IntKind.wrap .u64 (BitVec.toNat ((BitVec.ofInt (IntKind.bits .u64) (IntKind.wrap .u64 ((IntKind.wrap .u64 (BitVec.toNat ((BitVec.ofInt (IntKind.bits .u64) (Int.fdiv a1_ (2 ^ (min (Int.toNat (1 : Int)) (IntKind.bits .u64))))) &&& (BitVec.ofInt (IntKind.bits .u64) (6148914691236517205 : Int))))) + (IntKind.wrap .u64 (BitVec.toNat ((BitVec.ofInt (IntKind.bits .u64) a1_) &&& (BitVec.ofInt (IntKind.bits .u64) (6148914691236517205 : Int)))))))) &&& (BitVec.ofInt (IntKind.bits .u64) (3689348814741910323 : Int)))))))))) &&& (BitVec.ofInt (IntKind.bits .u64) (1085102592571150095 : Int))))) (2 ^ (min (Int.toNat (8 : Int)) (IntKind.bits .u64)))))) (2 ^ (min (Int.toNat (16 : Int)) (IntKind.bits .u64)))))) (2 ^ (min (Int.toNat (32 : Int)) (IntKind.bits .u64)))))))) &&& (BitVec.ofInt (IntKind.bits .i64) (127 : Int)))))
noncomputable def F_math_bits_OnesCount64 (a1_ : Int) : Option (Int) := (T_math_bits_OnesCount64 a1_).ev
noncomputable def A_math_bits_OnesCount64 : Sh := (.cons (.dat (.int .u64)) .nil)
noncomputable def I_math_bits_OnesCount64 : List (Nat × OSh) := []
noncomputable def K_math_bits_OnesCount64 : RetK := { acts := [], res := [.tmp 2], sh := (.cons (.dat (.int .i64)) .nil), obs := [], pins := [] }
noncomputable def D_math_bits_OnesCount64 : FD where
  A := A_math_bits_OnesCount64
  ins := I_math_bits_OnesCount64
  lend := []
  R := Int
  F := fun x => F_math_bits_OnesCount64 x.1.1
  emb := fun r => ([.dat (.int .i64) r], [])
noncomputable def E_math_bits_OnesCount64 : Env := envOf []
noncomputable def Z_math_bits_OnesCount64 : Nat → Nat → List Nat := fun _ _ => []
noncomputable def O_math_bits_OnesCount64 : List (Nat × LD) := []
noncomputable def C_math_bits_OnesCount64 : Code := (f188.body).getD .skip
noncomputable def T_math_bits_OnesCount (a1_ : Int) : Tr (Int) :=
  .c (Int) (F_math_bits_OnesCount64 a1_) fun r1_ =>
  .l r1_
noncomputable def F_math_bits_OnesCount (a1_ : Int) : Option (Int) := (T_math_bits_OnesCount a1_).ev
noncomputable def A_math_bits_OnesCount : Sh := (.cons (.dat (.int .u64)) .nil)
noncomputable def I_math_bits_OnesCount : List (Nat × OSh) := []
noncomputable def K_math_bits_OnesCount : RetK := { acts := [], res := [.tmp 2], sh := (.cons (.dat (.int .i64)) .nil), obs := [], pins := [] }
noncomputable def D_math_bits_OnesCount : FD where
  A := A_math_bits_OnesCount
  ins := I_math_bits_OnesCount
  lend := []
  R := Int
  F := fun x => F_math_bits_OnesCount x.1.1
  emb := fun r => ([.dat (.int .i64) r], [])
noncomputable def E_math_bits_OnesCount : Env := envOf [(188, D_math_bits_OnesCount64)]
noncomputable def Z_math_bits_OnesCount : Nat → Nat → List Nat := fun _ _ => []
noncomputable def O_math_bits_OnesCount : List (Nat × LD) := []
noncomputable def C_math_bits_OnesCount : Code := (f147.body).getD .skip
noncomputable def T_im_bag_size (a1_ : Int) : Tr (Int) :=
  .c (Int) (F_math_bits_OnesCount a1_) fun r1_ =>
  .l r1_
noncomputable def F_im_bag_size (a1_ : Int) : Option (Int) := (T_im_bag_size a1_).ev
noncomputable def A_im_bag_size : Sh := (.cons (.dat (.int .u64)) .nil)
noncomputable def I_im_bag_size : List (Nat × OSh) := []
noncomputable def K_im_bag_size : RetK := { acts := [], res := [.tmp 2], sh := (.cons (.dat (.int .i64)) .nil), obs := [], pins := [] }
noncomputable def D_im_bag_size : FD where
  A := A_im_bag_size
  ins := I_im_bag_size
  lend := []
  R := Int
  F := fun x => F_im_bag_size x.1.1
  emb := fun r => ([.dat (.int .i64) r], [])
noncomputable def E_im_bag_size : Env := envOf [(147, D_math_bits_OnesCount)]
noncomputable def Z_im_bag_size : Nat → Nat → List Nat := fun _ _ => []
noncomputable def O_im_bag_size : List (Nat × LD) := []
noncomputable def C_im_bag_size : Code := (f91.body).getD .skip
noncomputable def F_slices_Clone_Sint_int (a1_ : List (Int)) : Option (List Int) := cloneF a1_
noncomputable def D_slices_Clone_Sint_int : FD := fdClone
noncomputable def S_im_BestHubs_1_0 (rec_ : (Int) → (Int) → (List (Int)) → (List (List (Int))) → Option ((Int) × ((Int) × ((List (Int)) × (List (List (Int))))))) (k : Int) (v : (Int) × ((Int) × ((Int) × ((List (Int)) × (List (List (Int))))))) : Tr (((Int) × ((Int) × ((Int) × ((List (Int)) × (List (List (Int))))))) ⊕ ((Int) × ((Int) × ((List (Int)) × (List (List (Int))))))) :=
  .t (decide (v.1 < k))
    (.g (decide ((List.length v.2.2.2.1 + List.length ([v.1] : List (Int))) * 8 ≤ 140737488355328)) <|
      .c ((Int) × ((Int) × ((List (Int)) × (List (List (Int)))))) (rec_ v.2.1 v.2.2.1 (v.2.2.2.1 ++ ([v.1] : List (Int))) v.2.2.2.2) fun r11_ =>
      .g (decide ((0 : Int) ≤ (IntKind.wrap .i64 (((List.length r11_.2.2.1 : Nat) : Int) - (1 : Int)))) && decide ((IntKind.wrap .i64 (((List.length r11_.2.2.1 : Nat) : Int) - (1 : Int))) ≤ ((List.length r11_.2.2.1 : Nat) : Int))) <|
      .l (.inl ((IntKind.wrap .i64 (v.1 + (1 : Int))), (r11_.1, (r11_.2.1, ((List.take (Int.toNat (IntKind.wrap .i64 (((List.length r11_.2.2.1 : Nat) : Int) - (1 : Int)))) r11_.2.2.1), r11_.2.2.2))))))
    (.l (.inr (v.2.1, (v.2.2.1, (v.2.2.2.1, v.2.2.2.2)))))
noncomputable def L_im_BestHubs_1_0 (rec_ : (Int) → (Int) → (List (Int)) → (List (List (Int))) → Option ((Int) × ((Int) × ((List (Int)) × (List (List (Int))))))) (k : Int) (v : (Int) × ((Int) × ((Int) × ((List (Int)) × (List (List (Int))))))) : Option ((Int) × ((Int) × ((List (Int)) × (List (List (Int)))))) := iter (fun v => (S_im_BestHubs_1_0 rec_ k v).ev) v
noncomputable def DL_im_BestHubs_1_0 (rec_ : (Int) → (Int) → (List (Int)) → (List (List (Int))) → Option ((Int) × ((Int) × ((List (Int)) × (List (List (Int))))))) : LD where
  head := { acts := [.drop 900640, .drop 900670, .ren 69 900640, .ren 70 900670, .ren 2176 900640, .ren 2177 900670], S := { slots := [0, 1, 2, 3, 4, 25, 26], sh := (.cons (.box 64 0) (.cons (.box 65 0) (.cons (.box 66 0) (.cons (.box 67 0) (.cons (.box 68 0) (.cons (.dat (.int .i64)) (.cons (.dat (.int .i64)) .nil))))))), obs := [(64, .cells (.cons (.arr 900640) .nil)), (65, .cells (.cons (.dat (.int .i64)) .nil)), (66, .cells (.cons (.dat (.int .i64)) .nil)), (67, .cells (.cons (.arr 900670) .nil)), (68, .cells (.cons (.fn 88 (.cons (.box 64 0) (.cons (.box 65 0) (.cons (.box 66 0) (.cons (.box 67 0) (.cons (.box 68 0) .nil)))))) .nil)), (900640, .arr 3 (.int .i64)), (900670, .rows 24 3 (.int .i64))] } }
  exits := [(0, { acts := [], S := { slots := [0, 1, 2, 3, 4], sh := (.cons (.box 64 0) (.cons (.box 65 0) (.cons (.box 66 0) (.cons (.box 67 0) (.cons (.box 68 0) .nil))))), obs := [(64, .cells (.cons (.arr 900640) .nil)), (65, .cells (.cons (.dat (.int .i64)) .nil)), (66, .cells (.cons (.dat (.int .i64)) .nil)), (67, .cells (.cons (.arr 900670) .nil)), (68, .cells (.cons (.fn 88 (.cons (.box 64 0) (.cons (.box 65 0) (.cons (.box 66 0) (.cons (.box 67 0) (.cons (.box 68 0) .nil)))))) .nil)), (900640, .arr 3 (.int .i64)), (900670, .rows 24 3 (.int .i64))] } })]
  rets := { acts := [], S := { slots := [], sh := .nil, obs := [] } }
  K := Int
  V := (Int) × ((Int) × ((Int) × ((List (Int)) × (List (List (Int))))))
  R := (Int) × ((Int) × ((List (Int)) × (List (List (Int)))))
  join := fun k v => (((), ((), ((), ((), ((), (k, (v.1, ()))))))), (((), ()), ((v.2.1, ()), ((v.2.2.1, ()), (((), ()), ((((), ((), ((), ((), ((), ()))))), ()), (v.2.2.2.1, (v.2.2.2.2, ()))))))))
  sk := fun t => t.1.2.2.2.2.2.1
  sv := fun t => (t.1.2.2.2.2.2.2.1, (t.2.2.1.1, (t.2.2.2.1.1, (t.2.2.2.2.2.2.1, t.2.2.2.2.2.2.2.1))))
  step := S_im_BestHubs_1_0 rec_
  leaf := fun _ r => .l (.exit 0 (mkSt ({ slots := [0, 1, 2, 3, 4], sh := (.cons (.box 64 0) (.cons (.box 65 0) (.cons (.box 66 0) (.cons (.box 67 0) (.cons (.box 68 0) .nil))))), obs := [(64, .cells (.cons (.arr 900640) .nil)), (65, .cells (.cons (.dat (.int .i64)) .nil)), (66, .cells (.cons (.dat (.int .i64)) .nil)), (67, .cells (.cons (.arr 900670) .nil)), (68, .cells (.cons (.fn 88 (.cons (.box 64 0) (.cons (.box 65 0) (.cons (.box 66 0) (.cons (.box 67 0) (.cons (.box 68 0) .nil)))))) .nil)), (900640, .arr 3 (.int .i64)), (900670, .rows 24 3 (.int .i64))] }) (((), ((), ((), ((), ((), ()))))), (((), ()), ((r.1, ()), ((r.2.1, ()), (((), ()), ((((), ((), ((), ((), ((), ()))))), ()), (r.2.2.1, (r.2.2.2, ()))))))))))
noncomputable def T_im_BestHubs_1 (rec_ : (Int) → (Int) → (List (Int)) → (List (List (Int))) → Option ((Int) × ((Int) × ((List (Int)) × (List (List (Int))))))) (a2_ : Int) (a3_ : Int) (a1_ : List (Int)) (a4_ : List (List (Int))) : Tr ((Int) × ((Int) × ((List (Int)) × (List (List (Int)))))) :=
  .t (((List.length a1_ : Nat) : Int) == a2_)
    (.c (Bool) (F_im_isAllocation a2_ a1_) fun r1_ =>
      .t r1_
        (.c (Int) (F_im_bagOf a1_) fun r2_ =>
          .c (Int) (F_im_bag_size r2_) fun r3_ =>
          .t (decide (r3_ ≤ a3_))
            (.c (List Int) (F_slices_Clone_Sint_int a1_) fun r4_ =>
              .g (decide ((List.length a4_ + 1) * 24 ≤ 140737488355328)) <|
              .l (a2_, (a3_, (a1_, (List.set (a4_ ++ [[]]) (List.length a4_) r4_)))))
            (.l (a2_, (a3_, (a1_, a4_)))))
        (.l (a2_, (a3_, (a1_, a4_)))))
    (.c ((Int) × ((Int) × ((List (Int)) × (List (List (Int)))))) (L_im_BestHubs_1_0 rec_ a2_ ((0 : Int), (a2_, (a3_, (a1_, a4_))))) fun r16_ =>
      .l (r16_.1, (r16_.2.1, (r16_.2.2.1, r16_.2.2.2))))
noncomputable def F_im_BestHubs_1 : Nat → (Int) → (Int) → (List (Int)) → (List (List (Int))) → Option ((Int) × ((Int) × ((List (Int)) × (List (List (Int))))))
  | 0 => fun _ _ _ _ => none
  | n + 1 => fun a2_ a3_ a1_ a4_ => (T_im_BestHubs_1 (F_im_BestHubs_1 n) a2_ a3_ a1_ a4_).ev
noncomputable def A_im_BestHubs_1 : Sh := (.cons (.box 64 0) (.cons (.box 65 0) (.cons (.box 66 0) (.cons (.box 67 0) (.cons (.box 68 0) .nil)))))
noncomputable def I_im_BestHubs_1 : List (Nat × OSh) := [(64, .cells (.cons (.arr 69) .nil)), (65, .cells (.cons (.dat (.int .i64)) .nil)), (66, .cells (.cons (.dat (.int .i64)) .nil)), (67, .cells (.cons (.arr 70) .nil)), (68, .cells (.cons (.fn 88 (.cons (.box 64 0) (.cons (.box 65 0) (.cons (.box 66 0) (.cons (.box 67 0) (.cons (.box 68 0) .nil)))))) .nil)), (69, .arr 3 (.int .i64)), (70, .rows 24 3 (.int .i64))]
noncomputable def K_im_BestHubs_1 : RetK := { acts := [.ren 900640 0, .ren 900670 1, .ren 69 0, .ren 70 1], res := [], sh := .nil, obs := [(64, .cells (.cons (.arr 0) .nil)), (65, .cells (.cons (.dat (.int .i64)) .nil)), (66, .cells (.cons (.dat (.int .i64)) .nil)), (67, .cells (.cons (.arr 1) .nil)), (68, .cells (.cons (.fn 88 (.cons (.box 64 0) (.cons (.box 65 0) (.cons (.box 66 0) (.cons (.box 67 0) (.cons (.box 68 0) .nil)))))) .nil)), (0, .arr 3 (.int .i64)), (1, .rows 24 3 (.int .i64))], pins := [(0, 0, 64), (1, 0, 65), (2, 0, 66), (3, 0, 67), (4, 0, 68)], gone := [69, 70] }
noncomputable def Dr_im_BestHubs_1 (rec_ : (Int) → (Int) → (List (Int)) → (List (List (Int))) → Option ((Int) × ((Int) × ((List (Int)) × (List (List (Int))))))) : FD where
  A := A_im_BestHubs_1
  ins := I_im_BestHubs_1
  lend := [.arg 0, .arg 1, .arg 2, .arg 3, .arg 4, .cell 0 0, .cell 3 0]
  R := (Int) × ((Int) × ((List (Int)) × (List (List (Int)))))
  F := fun x => rec_ x.2.2.1.1 x.2.2.2.1.1 x.2.2.2.2.2.2.1 x.2.2.2.2.2.2.2.1
  emb := fun r => ([], [(64, .cells [.arr 0]), (65, .cells [.dat (.int .i64) r.1]), (66, .cells [.dat (.int .i64) r.2.1]), (67, .cells [.arr 1]), (68, .cells [.fn 88 [.box 64 0, .box 65 0, .box 66 0, .box 67 0, .box 68 0]]), (0, .arr 3 (.int .i64) r.2.2.1), (1, .rows 24 3 (.int .i64) r.2.2.2 none), (69, .spent), (70, .spent)])
noncomputable def D_im_BestHubs_1 (n : Nat) : FD := Dr_im_BestHubs_1 (F_im_BestHubs_1 n)
noncomputable def E_im_BestHubs_1 (rec_ : (Int) → (Int) → (List (Int)) → (List (List (Int))) → Option ((Int) × ((Int) × ((List (Int)) × (List (List (Int))))))) : Env := envOf [(89, D_im_isAllocation), (90, D_im_bagOf), (91, D_im_bag_size), (92, D_slices_Clone_Sint_int), (88, Dr_im_BestHubs_1 rec_)]
noncomputable def Z_im_BestHubs_1 : Nat → Nat → List Nat := fun _ _ => []
noncomputable def O_im_BestHubs_1 (rec_ : (Int) → (Int) → (List (Int)) → (List (List (Int))) → Option ((Int) × ((Int) × ((List (Int)) × (List (List (Int))))))) : List (Nat × LD) := [(0, DL_im_BestHubs_1_0 rec_)]
noncomputable def C_im_BestHubs_1 : Code := (f88.body).getD .skip
noncomputable def S_im_least_0 (k : ((HL [(.slice (.int .i64))] → Option (Int))) × ((Int) × ((List Nat) × (List (List (Int)))))) (v : (Nat) × (Int)) : Tr (((Nat) × (Int)) ⊕ (Nat)) :=
  .t (decide (v.2 < k.2.1))
    (.g (inR v.2 (List.length k.2.2.1)) <|
      .g (decide ((Int.toNat v.2) < List.length k.2.2.1) && decide ((List.getD k.2.2.1 (Int.toNat v.2) 0) < List.length k.2.2.2)) <|
      .c (Int) (k.1 ((List.getD k.2.2.2 (List.getD k.2.2.1 (Int.toNat v.2) 0) ([] : List (Int))), ())) fun r6_ =>
      .c (Int) (k.1 ((List.getD k.2.2.2 v.1 ([] : List (Int))), ())) fun r7_ =>
      .t (decide (r6_ < r7_))
        (.l (.inl ((List.getD k.2.2.1 (Int.toNat v.2) 0), (IntKind.wrap .i64 (v.2 + (1 : Int))))))
        (.l (.inl (v.1, (IntKind.wrap .i64 (v.2 + (1 : Int)))))))
    (.l (.inr v.1))
noncomputable def L_im_least_0 (k : ((HL [(.slice (.int .i64))] → Option (Int))) × ((Int) × ((List Nat) × (List (List (Int)))))) (v : (Nat) × (Int)) : Option (Nat) := iter (fun v => (S_im_least_0 k v).ev) v
noncomputable def DL_im_least_0 : LD where
  head := { acts := [], S := { slots := [0, 1, 5, 11, 12, 13], sh := (.cons (.arr 64) (.cons (.clo [(.slice (.int .i64))] (.int .i64)) (.cons (.row 64) (.cons (.arr 64) (.cons (.dat (.int .i64)) (.cons (.dat (.int .i64)) .nil)))))), obs := [(64, .perm 24 3 (.int .i64))] } }
  exits := [(0, { acts := [], S := { slots := [0, 5], sh := (.cons (.arr 64) (.cons (.row 64) .nil)), obs := [(64, .perm 24 3 (.int .i64))] } })]
  rets := { acts := [], S := { slots := [], sh := .nil, obs := [] } }
  K := ((HL [(.slice (.int .i64))] → Option (Int))) × ((Int) × ((List Nat) × (List (List (Int)))))
  V := (Nat) × (Int)
  R := Nat
  join := fun k v => (((), (k.1, (v.1, ((), (k.2.1, (v.2, ())))))), (k.2.2, ()))
  sk := fun t => (t.1.2.1, (t.1.2.2.2.2.1, t.2.1))
  sv := fun t => (t.1.2.2.1, t.1.2.2.2.2.2.1)
  step := S_im_least_0
  leaf := fun k r => .l (.exit 0 (mkSt ({ slots := [0, 5], sh := (.cons (.arr 64) (.cons (.row 64) .nil)), obs := [(64, .perm 24 3 (.int .i64))] }) (((), (r, ())), (k.2.2, ()))))
noncomputable def T_im_least (a2_ : (HL [(.slice (.int .i64))] → Option (Int))) (a1_ : (List Nat) × (List (List (Int)))) : Tr (List (Int)) :=
  .g (inR (0 : Int) (List.length a1_.1)) <|
  .g (decide ((Int.toNat (0 : Int)) < List.length a1_.1) && decide ((List.getD a1_.1 (Int.toNat (0 : Int)) 0) < List.length a1_.2)) <|
  .c (Nat) (L_im_least_0 (a2_, (((List.length a1_.1 : Nat) : Int), a1_)) ((List.getD a1_.1 (Int.toNat (0 : Int)) 0), (0 : Int))) fun r10_ =>
  .l (List.getD a1_.2 r10_ ([] : List (Int)))
noncomputable def F_im_least (a2_ : (HL [(.slice (.int .i64))] → Option (Int))) (a1_ : (List Nat) × (List (List (Int)))) : Option (List (Int)) := (T_im_least a2_ a1_).ev
noncomputable def A_im_least : Sh := (.cons (.arr 64) (.cons (.clo [(.slice (.int .i64))] (.int .i64)) .nil))
noncomputable def I_im_least : List (Nat × OSh) := [(64, .perm 24 3 (.int .i64))]
noncomputable def K_im_least : RetK := { acts := [.pull 4 800000, .ren 800000 0], res := [.tmp 4], sh := (.cons (.arr 0) .nil), obs := [(0, .arr 3 (.int .i64))], pins := [], gone := [64] }
noncomputable def D_im_least : FD where
  A := A_im_least
  ins := I_im_least
  lend := [.arg 0]
  R := List (Int)
  F := fun x => F_im_least x.1.2.1 x.2.1
  emb := fun r => ([.arr 0], [(0, .arr 3 (.int .i64) r), (64, .spent)])
noncomputable def E_im_least : Env := envOf []
noncomputable def Z_im_least : Nat → Nat → List Nat := fun _ _ => []
noncomputable def O_im_least : List (Nat × LD) := [(0, DL_im_least_0)]
noncomputable def C_im_least : Code := (f68.body).getD .skip
noncomputable def S_im_hubCost_2 (k : (List (List (Int))) × ((List (Int)) × ((Int) × ((Int) × ((List (List (Int))) × ((Int) × ((Int) × ((List (Int)) × (Int))))))))) (v : (Int) × (Int)) : Tr (((Int) × (Int)) ⊕ (Int)) :=
  .t (decide (v.2 < k.2.2.2.2.2.2.2.2))
    (.g (inR v.2 (List.length k.2.2.2.2.2.2.2.1)) <|
      .t (k.2.2.2.1 != v.2)
        (.g (inR k.2.2.2.1 (List.length k.1)) <|
          .g (inR k.2.2.2.1 (List.length k.2.1)) <|
          .g (inR (List.getD k.2.1 (Int.toNat k.2.2.2.1) (0 : Int)) (List.length (List.getD k.1 (Int.toNat k.2.2.2.1) ([] : List (Int))))) <|
          .g (inR v.2 (List.length k.1)) <|
          .g (inR v.2 (List.length k.2.1)) <|
          .g (inR (List.getD k.2.1 (Int.toNat v.2) (0 : Int)) (List.length (List.getD k.1 (Int.toNat v.2) ([] : List (Int))))) <|
          .g (inR k.2.2.2.1 (List.length k.2.1)) <|
          .g (inR (List.getD k.2.1 (Int.toNat k.2.2.2.1) (0 : Int)) (List.length k.1)) <|
          .g (inR v.2 (List.length k.2.1)) <|
          .g (inR (List.getD k.2.1 (Int.toNat v.2) (0 : Int)) (List.length (List.getD k.1 (Int.toNat (List.getD k.2.1 (Int.toNat k.2.2.2.1) (0 : Int))) ([] : List (Int))))) <|
          .l (.inl ((IntKind.wrap .i64 (v.1 + (IntKind.wrap .i64 ((List.getD k.2.2.2.2.2.2.2.1 (Int.toNat v.2) (0 : Int)) * (IntKind.wrap .i64 ((IntKind.wrap .i64 ((10 : Int) * (IntKind.wrap .i64 ((List.getD (List.getD k.1 (Int.toNat k.2.2.2.1) ([] : List (Int))) (Int.toNat (List.getD k.2.1 (Int.toNat k.2.2.2.1) (0 : Int))) (0 : Int)) + (List.getD (List.getD k.1 (Int.toNat v.2) ([] : List (Int))) (Int.toNat (List.getD k.2.1 (Int.toNat v.2) (0 : Int))) (0 : Int)))))) + (IntKind.wrap .i64 (k.2.2.1 * (List.getD (List.getD k.1 (Int.toNat (List.getD k.2.1 (Int.toNat k.2.2.2.1) (0 : Int))) ([] : List (Int))) (Int.toNat (List.getD k.2.1 (Int.toNat v.2) (0 : Int))) (0 : Int)))))))))), (IntKind.wrap .i64 (v.2 + (1 : Int))))))
        (.l (.inl (v.1, (IntKind.wrap .i64 (v.2 + (1 : Int)))))))
    (.l (.inr v.1))
noncomputable def L_im_hubCost_2 (k : (List (List (Int))) × ((List (Int)) × ((Int) × ((Int) × ((List (List (Int))) × ((Int) × ((Int) × ((List (Int)) × (Int))))))))) (v : (Int) × (Int)) : Option (Int) := iter (fun v => (S_im_hubCost_2 k v).ev) v
noncomputable def DL_im_hubCost_2 : LD where
  head := { acts := [], S := { slots := [0, 2, 3, 9, 10, 14, 15, 16, 21, 22, 23], sh := (.cons (.dat (.slice (.slice (.int .i64)))) (.cons (.dat (.slice (.int .i64))) (.cons (.dat (.int .i64)) (.cons (.dat (.int .i64)) (.cons (.dat (.int .i64)) (.cons (.dat (.slice (.slice (.int .i64)))) (.cons (.dat (.int .i64)) (.cons (.dat (.int .i64)) (.cons (.dat (.slice (.int .i64))) (.cons (.dat (.int .i64)) (.cons (.dat (.int .i64)) .nil))))))))))), obs := [] } }
  exits := [(2, { acts := [], S := { slots := [0, 2, 3, 9, 14, 15, 16], sh := (.cons (.dat (.slice (.slice (.int .i64)))) (.cons (.dat (.slice (.int .i64))) (.cons (.dat (.int .i64)) (.cons (.dat (.int .i64)) (.cons (.dat (.slice (.slice (.int .i64)))) (.cons (.dat (.int .i64)) (.cons (.dat (.int .i64)) .nil))))))), obs := [] } })]
  rets := { acts := [], S := { slots := [], sh := .nil, obs := [] } }
  K := (List (List (Int))) × ((List (Int)) × ((Int) × ((Int) × ((List (List (Int))) × ((Int) × ((Int) × ((List (Int)) × (Int))))))))
  V := (Int) × (Int)
  R := Int
  join := fun k v => ((k.1, (k.2.1, (k.2.2.1, (v.1, (k.2.2.2.1, (k.2.2.2.2.1, (k.2.2.2.2.2.1, (k.2.2.2.2.2.2.1, (k.2.2.2.2.2.2.2.1, (k.2.2.2.2.2.2.2.2, (v.2, ()))))))))))), ())
  sk := fun t => (t.1.1, (t.1.2.1, (t.1.2.2.1, (t.1.2.2.2.2.1, (t.1.2.2.2.2.2.1, (t.1.2.2.2.2.2.2.1, (t.1.2.2.2.2.2.2.2.1, (t.1.2.2.2.2.2.2.2.2.1, t.1.2.2.2.2.2.2.2.2.2.1))))))))
  sv := fun t => (t.1.2.2.2.1, t.1.2.2.2.2.2.2.2.2.2.2.1)
  step := S_im_hubCost_2
  leaf := fun k r => .l (.exit 2 (mkSt ({ slots := [0, 2, 3, 9, 14, 15, 16], sh := (.cons (.dat (.slice (.slice (.int .i64)))) (.cons (.dat (.slice (.int .i64))) (.cons (.dat (.int .i64)) (.cons (.dat (.int .i64)) (.cons (.dat (.slice (.slice (.int .i64)))) (.cons (.dat (.int .i64)) (.cons (.dat (.int .i64)) .nil))))))), obs := [] }) ((k.1, (k.2.1, (k.2.2.1, (r, (k.2.2.2.2.1, (k.2.2.2.2.2.1, (k.2.2.2.2.2.2.1, ()))))))), ())))
noncomputable def S_im_hubCost_0 (k : (List (List (Int))) × ((List (Int)) × ((Int) × ((List (List (Int))) × (Int))))) (v : (Int) × (Int)) : Tr (((Int) × (Int)) ⊕ (Int)) :=
  .t (decide (v.2 < k.2.2.2.2))
    (.g (inR v.2 (List.length k.2.2.2.1)) <|
      .c (Int) (L_im_hubCost_2 (k.1, (k.2.1, (k.2.2.1, (v.2, (k.2.2.2.1, (k.2.2.2.2, (v.2, ((List.getD k.2.2.2.1 (Int.toNat v.2) ([] : List (Int))), ((List.length (List.getD k.2.2.2.1 (Int.toNat v.2) ([] : List (Int))) : Nat) : Int))))))))) (v.1, (0 : Int))) fun r26_ =>
      .l (.inl (r26_, (IntKind.wrap .i64 (v.2 + (1 : Int))))))
    (.l (.inr v.1))
noncomputable def L_im_hubCost_0 (k : (List (List (Int))) × ((List (Int)) × ((Int) × ((List (List (Int))) × (Int))))) (v : (Int) × (Int)) : Option (Int) := iter (fun v => (S_im_hubCost_0 k v).ev) v
noncomputable def DL_im_hubCost_0 : LD where
  head := { acts := [], S := { slots := [0, 2, 3, 9, 14, 15, 16], sh := (.cons (.dat (.slice (.slice (.int .i64)))) (.cons (.dat (.slice (.int .i64))) (.cons (.dat (.int .i64)) (.cons (.dat (.int .i64)) (.cons (.dat (.slice (.slice (.int .i64)))) (.cons (.dat (.int .i64)) (.cons (.dat (.int .i64)) .nil))))))), obs := [] } }
  exits := [(0, { acts := [], S := { slots := [9], sh := (.cons (.dat (.int .i64)) .nil), obs := [] } })]
  rets := { acts := [], S := { slots := [], sh := .nil, obs := [] } }
  K := (List (List (Int))) × ((List (Int)) × ((Int) × ((List (List (Int))) × (Int))))
  V := (Int) × (Int)
  R := Int
  join := fun k v => ((k.1, (k.2.1, (k.2.2.1, (v.1, (k.2.2.2.1, (k.2.2.2.2, (v.2, ()))))))), ())
  sk := fun t => (t.1.1, (t.1.2.1, (t.1.2.2.1, (t.1.2.2.2.2.1, t.1.2.2.2.2.2.1))))
  sv := fun t => (t.1.2.2.2.1, t.1.2.2.2.2.2.2.1)
  step := S_im_hubCost_0
  leaf := fun _ r => .l (.exit 0 (mkSt ({ slots := [9], sh := (.cons (.dat (.int .i64)) .nil), obs := [] }) ((r, ()), ())))
noncomputable def T_im_hubCost (a1_ : List (List (Int))) (a2_ : List (List (Int))) (a3_ : List (Int)) (a4_ : Int) : Tr (Int) :=
  .c (Int) (L_im_hubCost_0 (a1_, (a3_, (a4_, (a2_, ((List.length a2_ : Nat) : Int))))) ((0 : Int), (0 : Int))) fun r28_ =>
  .l r28_
noncomputable def F_im_hubCost (a1_ : List (List (Int))) (a2_ : List (List (Int))) (a3_ : List (Int)) (a4_ : Int) : Option (Int) := (T_im_hubCost a1_ a2_ a3_ a4_).ev
noncomputable def A_im_hubCost : Sh := (.cons (.dat (.slice (.slice (.int .i64)))) (.cons (.dat (.slice (.slice (.int .i64)))) (.cons (.dat (.slice (.int .i64))) (.cons (.dat (.int .i64)) .nil))))
noncomputable def I_im_hubCost : List (Nat × OSh) := []
noncomputable def K_im_hubCost : RetK := { acts := [], res := [.tmp 8], sh := (.cons (.dat (.int .i64)) .nil), obs := [], pins := [] }
noncomputable def D_im_hubCost : FD where
  A := A_im_hubCost
  ins := I_im_hubCost
  lend := []
  R := Int
  F := fun x => F_im_hubCost x.1.1 x.1.2.1 x.1.2.2.1 x.1.2.2.2.1
  emb := fun r => ([.dat (.int .i64) r], [])
noncomputable def E_im_hubCost : Env := envOf []
noncomputable def Z_im_hubCost : Nat → Nat → List Nat := fun _ _ => []
noncomputable def O_im_hubCost : List (Nat × LD) := [(2, DL_im_hubCost_2), (0, DL_im_hubCost_0)]
noncomputable def C_im_hubCost : Code := (f94.body).getD .skip
noncomputable def T_im_BestHubs_2 (a1_ : List (Int)) (a2_ : List (List (Int))) (a3_ : List (List (Int))) (a4_ : Int) : Tr (Int) :=
  .c (Int) (F_im_hubCost a2_ a3_ a1_ a4_) fun r1_ =>
  .l r1_
noncomputable def F_im_BestHubs_2 (a1_ : List (Int)) (a2_ : List (List (Int))) (a3_ : List (List (Int))) (a4_ : Int) : Option (Int) := (T_im_BestHubs_2 a1_ a2_ a3_ a4_).ev
noncomputable def A_im_BestHubs_2 : Sh := (.cons (.dat (.slice (.int .i64))) (.cons (.ptr (.cons (.dat (.slice (.slice (.int .i64)))) .nil)) (.cons (.ptr (.cons (.dat (.slice (.slice (.int .i64)))) .nil)) (.cons (.ptr (.cons (.dat (.int .i64)) .nil)) .nil))))
noncomputable def I_im_BestHubs_2 : List (Nat × OSh) := []
noncomputable def K_im_BestHubs_2 : RetK := { acts := [], res := [.tmp 5], sh := (.cons (.dat (.int .i64)) .nil), obs := [], pins := [] }
noncomputable def D_im_BestHubs_2 : FD where
  A := A_im_BestHubs_2
  ins := I_im_BestHubs_2
  lend := []
  R := Int
  F := fun x => F_im_BestHubs_2 x.1.1 x.1.2.1.1 x.1.2.2.1.1 x.1.2.2.2.1.1
  emb := fun r => ([.dat (.int .i64) r], [])
noncomputable def E_im_BestHubs_2 : Env := envOf [(94, D_im_hubCost)]
noncomputable def Z_im_BestHubs_2 : Nat → Nat → List Nat := fun _ _ => []
noncomputable def O_im_BestHubs_2 : List (Nat × LD) := []
noncomputable def C_im_BestHubs_2 : Code := (f93.body).getD .skip
noncomputable def T_im_BestHubs (a1_ : List (List (Int))) (a2_ : List (List (Int))) (a3_ : Int) (a4_ : Int) : Tr ((Bool) × (List (Int))) :=
  .c (Bool) (F_im_isNet a1_) fun r1_ =>
  .t (!r1_)
    (.l (false, ([] : List (Int))))
    (.c (Bool) (F_im_areFlows a1_ a2_) fun r2_ =>
      .t (!r2_)
        (.l (false, ([] : List (Int))))
        (.c (Bool) (F_im_between a3_ (1 : Int) (5 : Int)) fun r3_ =>
          .t (!r3_)
            (.l (false, ([] : List (Int))))
            (.c (Bool) (F_im_between a4_ (0 : Int) (10 : Int)) fun r4_ =>
              .t (!r4_)
                (.l (false, ([] : List (Int))))
                (.c ((Int) × ((Int) × ((List (Int)) × (List (List (Int)))))) (F_im_BestHubs_1 1000000 ((List.length a1_ : Nat) : Int) a3_ ([] : List (Int)) ([] : List (List (Int)))) fun r5_ =>
                  .c (List (Int)) (F_im_least (fun h6_ => Option.bind (F_im_BestHubs_2 h6_.1 a1_ a2_ a4_) fun y7_ => some y7_) ((List.range (List.length r5_.2.2.2)), r5_.2.2.2)) fun r8_ =>
                  .l (true, r8_)))))
noncomputable def F_im_BestHubs (a1_ : List (List (Int))) (a2_ : List (List (Int))) (a3_ : Int) (a4_ : Int) : Option ((Bool) × (List (Int))) := (T_im_BestHubs a1_ a2_ a3_ a4_).ev
noncomputable def A_im_BestHubs : Sh := (.cons (.dat (.slice (.slice (.int .i64)))) (.cons (.dat (.slice (.slice (.int .i64)))) (.cons (.dat (.int .i64)) (.cons (.dat (.int .i64)) .nil))))
noncomputable def I_im_BestHubs : List (Nat × OSh) := []
noncomputable def K_im_BestHubs : RetK := { acts := [.own 8 0 3 (.int .i64), .ren 2688 0], res := [.tmp 8, .tmp 9], sh := (.cons (.arr 0) (.cons (.dat .bool) .nil)), obs := [(0, .arr 3 (.int .i64))], pins := [] }
noncomputable def D_im_BestHubs : FD where
  A := A_im_BestHubs
  ins := I_im_BestHubs
  lend := []
  R := (Bool) × (List (Int))
  F := fun x => F_im_BestHubs x.1.1 x.1.2.1 x.1.2.2.1 x.1.2.2.2.1
  emb := fun r => ([.arr 0, .dat .bool r.1], [(0, .arr 3 (.int .i64) r.2)])
noncomputable def E_im_BestHubs : Env := envOf [(86, D_im_isNet), (87, D_im_areFlows), (67, D_im_between), (88, D_im_BestHubs_1 1000000), (68, D_im_least), (68, D_im_least), (93, D_im_BestHubs_2)]
noncomputable def Z_im_BestHubs : Nat → Nat → List Nat := fun r i => match look [(3, [(2, [1000000])]), (7, [(2, [80000040])])] r with
  | some l => (look l i).getD []
  | none => []
noncomputable def O_im_BestHubs : List (Nat × LD) := []
noncomputable def C_im_BestHubs : Code := (f31.body).getD .skip
noncomputable def S_lw_eqIntS_0 (k : (List (Int)) × (List (Int))) (v : Int) : Tr ((Int) ⊕ ((Unit) ⊕ (Unit))) :=
  .t (decide (v < ((List.length k.1 : Nat) : Int)))
    (.g (inR v (List.length k.1)) <|
      .g (inR v (List.length k.2)) <|
      .t ((List.getD k.1 (Int.toNat v) (0 : Int)) != (List.getD k.2 (Int.toNat v) (0 : Int)))
        (.l (.inr (.inr ())))
        (.l (.inl (IntKind.wrap .i64 (v + (1 : Int))))))
    (.l (.inr (.inl ())))
noncomputable def L_lw_eqIntS_0 (k : (List (Int)) × (List (Int))) (v : Int) : Option ((Unit) ⊕ (Unit)) := iter (fun v => (S_lw_eqIntS_0 k v).ev) v
noncomputable def DL_lw_eqIntS_0 : LD where
  head := { acts := [], S := { slots := [0, 1, 5], sh := (.cons (.dat (.slice (.int .i64))) (.cons (.dat (.slice (.int .i64))) (.cons (.dat (.int .i64)) .nil))), obs := [] } }
  exits := [(0, { acts := [], S := { slots := [], sh := .nil, obs := [] } })]
  rets := { acts := [], S := { slots := [4], sh := (.cons (.dat .bool) .nil), obs := [] } }
  K := (List (Int)) × (List (Int))
  V := Int
  R := (Unit) ⊕ (Unit)
  join := fun k v => ((k.1, (k.2, (v, ()))), ())
  sk := fun t => (t.1.1, t.1.2.1)
  sv := fun t => t.1.2.2.1
  step := S_lw_eqIntS_0
  leaf := fun _ r => .s (Unit) (Unit) r (fun _ => .l (.exit 0 (mkSt ({ slots := [], sh := .nil, obs := [] }) ((), ())))) (fun _ => .l (.ret (mkSt ({ slots := [4], sh := (.cons (.dat .bool) .nil), obs := [] }) ((false, ()), ()))))
noncomputable def T_lw_eqIntS (a1_ : List (Int)) (a2_ : List (Int)) : Tr (Bool) :=
  .t (((List.length a1_ : Nat) : Int) != ((List.length a2_ : Nat) : Int))
    (.l false)
    (.c ((Unit) ⊕ (Unit)) (L_lw_eqIntS_0 (a1_, a2_) (0 : Int)) fun r5_ =>
      .s (Unit) (Unit) r5_
        (fun _ => .l true)
        (fun _ => .l false))
noncomputable def F_lw_eqIntS (a1_ : List (Int)) (a2_ : List (Int)) : Option (Bool) := (T_lw_eqIntS a1_ a2_).ev
noncomputable def A_lw_eqIntS : Sh := (.cons (.dat (.slice (.int .i64))) (.cons (.dat (.slice (.int .i64))) .nil))
noncomputable def I_lw_eqIntS : List (Nat × OSh) := []
noncomputable def K_lw_eqIntS : RetK := { acts := [], res := [.tmp 4], sh := (.cons (.dat .bool) .nil), obs := [], pins := [] }
noncomputable def D_lw_eqIntS : FD where
  A := A_lw_eqIntS
  ins := I_lw_eqIntS
  lend := []
  R := Bool
  F := fun x => F_lw_eqIntS x.1.1 x.1.2.1
  emb := fun r => ([.dat .bool r], [])
noncomputable def E_lw_eqIntS : Env := envOf []
noncomputable def Z_lw_eqIntS : Nat → Nat → List Nat := fun _ _ => []
noncomputable def O_lw_eqIntS : List (Nat × LD) := [(0, DL_lw_eqIntS_0)]
noncomputable def C_lw_eqIntS : Code := (f16.body).getD .skip
noncomputable def S_lw_eqIntSS_0 (k : (List (List (Int))) × (List (List (Int)))) (v : Int) : Tr ((Int) ⊕ ((Unit) ⊕ (Unit))) :=
  .t (decide (v < ((List.length k.1 : Nat) : Int)))
    (.g (inR v (List.length k.1)) <|
      .g (inR v (List.length k.2)) <|
      .c (Bool) (F_lw_eqIntS (List.getD k.1 (Int.toNat v) ([] : List (Int))) (List.getD k.2 (Int.toNat v) ([] : List (Int)))) fun r4_ =>
      .t (!r4_)
        (.l (.inr (.inr ())))
        (.l (.inl (IntKind.wrap .i64 (v + (1 : Int))))))
    (.l (.inr (.inl ())))
noncomputable def L_lw_eqIntSS_0 (k : (List (List (Int))) × (List (List (Int)))) (v : Int) : Option ((Unit) ⊕ (Unit)) := iter (fun v => (S_lw_eqIntSS_0 k v).ev) v
noncomputable def DL_lw_eqIntSS_0 : LD where
  head := { acts := [], S := { slots := [0, 1, 5], sh := (.cons (.dat (.slice (.slice (.int .i64)))) (.cons (.dat (.slice (.slice (.int .i64)))) (.cons (.dat (.int .i64)) .nil))), obs := [] } }
  exits := [(0, { acts := [], S := { slots := [], sh := .nil, obs := [] } })]
  rets := { acts := [], S := { slots := [4], sh := (.cons (.dat .bool) .nil), obs := [] } }
  K := (List (List (Int))) × (List (List (Int)))
  V := Int
  R := (Unit) ⊕ (Unit)
  join := fun k v => ((k.1, (k.2, (v, ()))), ())
  sk := fun t => (t.1.1, t.1.2.1)
  sv := fun t => t.1.2.2.1
  step := S_lw_eqIntSS_0
  leaf := fun _ r => .s (Unit) (Unit) r (fun _ => .l (.exit 0 (mkSt ({ slots := [], sh := .nil, obs := [] }) ((), ())))) (fun _ => .l (.ret (mkSt ({ slots := [4], sh := (.cons (.dat .bool) .nil), obs := [] }) ((false, ()), ()))))
noncomputable def T_lw_eqIntSS (a1_ : List (List (Int))) (a2_ : List (List (Int))) : Tr (Bool) :=
  .t (((List.length a1_ : Nat) : Int) != ((List.length a2_ : Nat) : Int))
    (.l false)
    (.c ((Unit) ⊕ (Unit)) (L_lw_eqIntSS_0 (a1_, a2_) (0 : Int)) fun r6_ =>
      .s (Unit) (Unit) r6_
        (fun _ => .l true)
        (fun _ => .l false))
noncomputable def F_lw_eqIntSS (a1_ : List (List (Int))) (a2_ : List (List (Int))) : Option (Bool) := (T_lw_eqIntSS a1_ a2_).ev
noncomputable def A_lw_eqIntSS : Sh := (.cons (.dat (.slice (.slice (.int .i64)))) (.cons (.dat (.slice (.slice (.int .i64)))) .nil))
noncomputable def I_lw_eqIntSS : List (Nat × OSh) := []
noncomputable def K_lw_eqIntSS : RetK := { acts := [], res := [.tmp 4], sh := (.cons (.dat .bool) .nil), obs := [], pins := [] }
noncomputable def D_lw_eqIntSS : FD where
  A := A_lw_eqIntSS
  ins := I_lw_eqIntSS
  lend := []
  R := Bool
  F := fun x => F_lw_eqIntSS x.1.1 x.1.2.1
  emb := fun r => ([.dat .bool r], [])
noncomputable def E_lw_eqIntSS : Env := envOf [(16, D_lw_eqIntS)]
noncomputable def Z_lw_eqIntSS : Nat → Nat → List Nat := fun _ _ => []
noncomputable def O_lw_eqIntSS : List (Nat × LD) := [(0, DL_lw_eqIntSS_0)]
noncomputable def C_lw_eqIntSS : Code := (f17.body).getD .skip
noncomputable def S_lw_markIntS_0 (_k : Unit) (v : (Int) × ((Int) × (List (Int)))) : Tr (((Int) × ((Int) × (List (Int)))) ⊕ ((Int) × (List (Int)))) :=
  .t (decide (v.2.1 < ((List.length v.2.2 : Nat) : Int)))
    (.g (inR v.2.1 (List.length v.2.2)) <|
      .g (decide ((Int.toNat v.2.1) < List.length v.2.2)) <|
      .l (.inl ((IntKind.wrap .i64 (v.1 + (1 : Int))), ((IntKind.wrap .i64 (v.2.1 + (1 : Int))), (List.set v.2.2 (Int.toNat v.2.1) v.1)))))
    (.l (.inr (v.1, v.2.2)))
noncomputable def L_lw_markIntS_0 (k : Unit) (v : (Int) × ((Int) × (List (Int)))) : Option ((Int) × (List (Int))) := iter (fun v => (S_lw_markIntS_0 k v).ev) v
noncomputable def DL_lw_markIntS_0 : LD where
  head := { acts := [], S := { slots := [0, 1, 5], sh := (.cons (.arr 64) (.cons (.dat (.int .i64)) (.cons (.dat (.int .i64)) .nil))), obs := [(64, .arr 3 (.int .i64))] } }
  exits := [(0, { acts := [], S := { slots := [0, 1], sh := (.cons (.arr 64) (.cons (.dat (.int .i64)) .nil)), obs := [(64, .arr 3 (.int .i64))] } })]
  rets := { acts := [], S := { slots := [], sh := .nil, obs := [] } }
  K := Unit
  V := (Int) × ((Int) × (List (Int)))
  R := (Int) × (List (Int))
  join := fun _ v => (((), (v.1, (v.2.1, ()))), (v.2.2, ()))
  sk := fun _ => ()
  sv := fun t => (t.1.2.1, (t.1.2.2.1, t.2.1))
  step := S_lw_markIntS_0
  leaf := fun _ r => .l (.exit 0 (mkSt ({ slots := [0, 1], sh := (.cons (.arr 64) (.cons (.dat (.int .i64)) .nil)), obs := [(64, .arr 3 (.int .i64))] }) (((), (r.1, ())), (r.2, ()))))
noncomputable def T_lw_markIntS (a2_ : Int) (a1_ : List (Int)) : Tr ((Int) × (List (Int))) :=
  .c ((Int) × (List (Int))) (L_lw_markIntS_0 () (a2_, ((0 : Int), a1_))) fun r6_ =>
  .l (r6_.1, r6_.2)
noncomputable def F_lw_markIntS (a2_ : Int) (a1_ : List (Int)) : Option ((Int) × (List (Int))) := (T_lw_markIntS a2_ a1_).ev
noncomputable def A_lw_markIntS : Sh := (.cons (.arr 64) (.cons (.dat (.int .i64)) .nil))
noncomputable def I_lw_markIntS : List (Nat × OSh) := [(64, .arr 3 (.int .i64))]
noncomputable def K_lw_markIntS : RetK := { acts := [], res := [.tmp 4], sh := (.cons (.dat (.int .i64)) .nil), obs := [(64, .arr 3 (.int .i64))], pins := [(0, 0, 64)] }
noncomputable def D_lw_markIntS : FD where
  A := A_lw_markIntS
  ins := I_lw_markIntS
  lend := [.arg 0]
  R := (Int) × (List (Int))
  F := fun x => F_lw_markIntS x.1.2.1 x.2.1
  emb := fun r => ([.dat (.int .i64) r.1], [(64, .arr 3 (.int .i64) r.2)])
noncomputable def E_lw_markIntS : Env := envOf []
noncomputable def Z_lw_markIntS : Nat → Nat → List Nat := fun _ _ => []
noncomputable def O_lw_markIntS : List (Nat × LD) := [(0, DL_lw_markIntS_0)]
noncomputable def C_lw_markIntS : Code := (f19.body).getD .skip
noncomputable def S_lw_markIntSS_0 (_k : Unit) (v : (Int) × ((Int) × (List (List (Int))))) : Tr (((Int) × ((Int) × (List (List (Int))))) ⊕ ((Int) × (List (List (Int))))) :=
  .t (decide (v.2.1 < ((List.length v.2.2 : Nat) : Int)))
    (.g (inR v.2.1 (List.length v.2.2)) <|
      .g (decide ((Int.toNat v.2.1) < List.length v.2.2)) <|
      .c ((Int) × (List (Int))) (F_lw_markIntS v.1 (List.getD v.2.2 (Int.toNat v.2.1) ([] : List (Int)))) fun r4_ =>
      .l (.inl (r4_.1, ((IntKind.wrap .i64 (v.2.1 + (1 : Int))), (List.set v.2.2 (Int.toNat v.2.1) r4_.2)))))
    (.l (.inr (v.1, v.2.2)))
noncomputable def L_lw_markIntSS_0 (k : Unit) (v : (Int) × ((Int) × (List (List (Int))))) : Option ((Int) × (List (List (Int)))) := iter (fun v => (S_lw_markIntSS_0 k v).ev) v
noncomputable def DL_lw_markIntSS_0 : LD where
  head := { acts := [.fz 500015], S := { slots := [0, 1, 5], sh := (.cons (.arr 64) (.cons (.dat (.int .i64)) (.cons (.dat (.int .i64)) .nil))), obs := [(64, .rows 24 3 (.int .i64))] } }
  exits := [(0, { acts := [], S := { slots := [0, 1], sh := (.cons (.arr 64) (.cons (.dat (.int .i64)) .nil)), obs := [(64, .rows 24 3 (.int .i64))] } })]
  rets := { acts := [], S := { slots := [], sh := .nil, obs := [] } }
  K := Unit
  V := (Int) × ((Int) × (List (List (Int))))
  R := (Int) × (List (List (Int)))
  join := fun _ v => (((), (v.1, (v.2.1, ()))), (v.2.2, ()))
  sk := fun _ => ()
  sv := fun t => (t.1.2.1, (t.1.2.2.1, t.2.1))
  step := S_lw_markIntSS_0
  leaf := fun _ r => .l (.exit 0 (mkSt ({ slots := [0, 1], sh := (.cons (.arr 64) (.cons (.dat (.int .i64)) .nil)), obs := [(64, .rows 24 3 (.int .i64))] }) (((), (r.1, ())), (r.2, ()))))
noncomputable def T_lw_markIntSS (a2_ : Int) (a1_ : List (List (Int))) : Tr ((Int) × (List (List (Int)))) :=
  .c ((Int) × (List (List (Int)))) (L_lw_markIntSS_0 () (a2_, ((0 : Int), a1_))) fun r7_ =>
  .l (r7_.1, r7_.2)
noncomputable def F_lw_markIntSS (a2_ : Int) (a1_ : List (List (Int))) : Option ((Int) × (List (List (Int)))) := (T_lw_markIntSS a2_ a1_).ev
noncomputable def A_lw_markIntSS : Sh := (.cons (.arr 64) (.cons (.dat (.int .i64)) .nil))
noncomputable def I_lw_markIntSS : List (Nat × OSh) := [(64, .rows 24 3 (.int .i64))]
noncomputable def K_lw_markIntSS : RetK := { acts := [], res := [.tmp 4], sh := (.cons (.dat (.int .i64)) .nil), obs := [(64, .rows 24 3 (.int .i64))], pins := [(0, 0, 64)] }
noncomputable def D_lw_markIntSS : FD where
  A := A_lw_markIntSS
  ins := I_lw_markIntSS
  lend := [.arg 0]
  R := (Int) × (List (List (Int)))
  F := fun x => F_lw_markIntSS x.1.2.1 x.2.1
  emb := fun r => ([.dat (.int .i64) r.1], [(64, .rows 24 3 (.int .i64) r.2 none)])
noncomputable def E_lw_markIntSS : Env := envOf [(19, D_lw_markIntS)]
noncomputable def Z_lw_markIntSS : Nat → Nat → List Nat := fun r i => match look [(4, [(5, [2000015])])] r with
  | some l => (look l i).getD []
  | none => []
noncomputable def O_lw_markIntSS : List (Nat × LD) := [(0, DL_lw_markIntSS_0)]
noncomputable def C_lw_markIntSS : Code := (f18.body).getD .skip
noncomputable def S_lw_heldIntS_0 (k : List (Int)) (v : (Int) × (Int)) : Tr (((Int) × (Int)) ⊕ ((Int) ⊕ (Unit))) :=
  .t (decide (v.2 < ((List.length k : Nat) : Int)))
    (.g (inR v.2 (List.length k)) <|
      .t ((List.getD k (Int.toNat v.2) (0 : Int)) != v.1)
        (.l (.inr (.inr ())))
        (.l (.inl ((IntKind.wrap .i64 (v.1 + (1 : Int))), (IntKind.wrap .i64 (v.2 + (1 : Int)))))))
    (.l (.inr (.inl v.1)))
noncomputable def L_lw_heldIntS_0 (k : List (Int)) (v : (Int) × (Int)) : Option ((Int) ⊕ (Unit)) := iter (fun v => (S_lw_heldIntS_0 k v).ev) v
noncomputable def DL_lw_heldIntS_0 : LD where
  head := { acts := [], S := { slots := [0, 1, 5], sh := (.cons (.dat (.slice (.int .i64))) (.cons (.dat (.int .i64)) (.cons (.dat (.int .i64)) .nil))), obs := [] } }
  exits := [(0, { acts := [], S := { slots := [1], sh := (.cons (.dat (.int .i64)) .nil), obs := [] } })]
  rets := { acts := [], S := { slots := [4], sh := (.cons (.dat (.int .i64)) .nil), obs := [] } }
  K := List (Int)
  V := (Int) × (Int)
  R := (Int) ⊕ (Unit)
  join := fun k v => ((k, (v.1, (v.2, ()))), ())
  sk := fun t => t.1.1
  sv := fun t => (t.1.2.1, t.1.2.2.1)
  step := S_lw_heldIntS_0
  leaf := fun _ r => .s (Int) (Unit) r (fun a => .l (.exit 0 (mkSt ({ slots := [1], sh := (.cons (.dat (.int .i64)) .nil), obs := [] }) ((a, ()), ())))) (fun _ => .l (.ret (mkSt ({ slots := [4], sh := (.cons (.dat (.int .i64)) .nil), obs := [] }) (((-1 : Int), ()), ()))))
noncomputable def T_lw_heldIntS (a1_ : List (Int)) (a2_ : Int) : Tr (Int) :=
  .c ((Int) ⊕ (Unit)) (L_lw_heldIntS_0 a1_ (a2_, (0 : Int))) fun r6_ =>
  .s (Int) (Unit) r6_
    (fun r7_ => .l r7_)
    (fun _ => .l (-1 : Int))
noncomputable def F_lw_heldIntS (a1_ : List (Int)) (a2_ : Int) : Option (Int) := (T_lw_heldIntS a1_ a2_).ev
noncomputable def A_lw_heldIntS : Sh := (.cons (.dat (.slice (.int .i64))) (.cons (.dat (.int .i64)) .nil))
noncomputable def I_lw_heldIntS : List (Nat × OSh) := []
noncomputable def K_lw_heldIntS : RetK := { acts := [], res := [.tmp 4], sh := (.cons (.dat (.int .i64)) .nil), obs := [], pins := [] }
noncomputable def D_lw_heldIntS : FD where
  A := A_lw_heldIntS
  ins := I_lw_heldIntS
  lend := []
  R := Int
  F := fun x => F_lw_heldIntS x.1.1 x.1.2.1
  emb := fun r => ([.dat (.int .i64) r], [])
noncomputable def E_lw_heldIntS : Env := envOf []
noncomputable def Z_lw_heldIntS : Nat → Nat → List Nat := fun _ _ => []
noncomputable def O_lw_heldIntS : List (Nat × LD) := [(0, DL_lw_heldIntS_0)]
noncomputable def C_lw_heldIntS : Code := (f20.body).getD .skip
noncomputable def T_lw_FnExactBestHubs (a1_ : List (List (Int))) (a2_ : List (List (Int))) (a3_ : Int) (a4_ : Int) : Tr (Bool) :=
  .c (Int) (F_lw_szIntSS a1_ (1048576 : Int)) fun r1_ =>
  .t (decide (r1_ < (0 : Int)))
    (.l true)
    (.c (Int) (F_lw_szIntSS a2_ r1_) fun r2_ =>
      .t (decide (r2_ < (0 : Int)))
        (.l true)
        (.c (List (List (Int))) (F_lw_toIntSS a1_) fun r3_ =>
          .c (List (List (Int))) (F_lw_toIntSS a2_) fun r4_ =>
          .c ((List (Int)) × (Bool)) (F_sp_BestHubs r3_ r4_ a3_ a4_) fun r5_ =>
          .c (List (List (Int))) (F_lw_toIntSS a1_) fun r6_ =>
          .c (List (List (Int))) (F_lw_toIntSS a2_) fun r7_ =>
          .c ((Bool) × (List (Int))) (F_im_BestHubs r6_ r7_ a3_ a4_) fun r8_ =>
          .c (Bool) (F_lw_eqIntS r8_.2 r5_.1) fun r9_ =>
          .t (!r9_)
            (.l false)
            (.t (!(r8_.1 == r5_.2))
                (.l false)
                (.c (List (List (Int))) (F_lw_toIntSS a1_) fun r10_ =>
                  .c (Bool) (F_lw_eqIntSS r6_ r10_) fun r11_ =>
                  .t (!r11_)
                    (.l false)
                    (.c (List (List (Int))) (F_lw_toIntSS a2_) fun r12_ =>
                      .c (Bool) (F_lw_eqIntSS r7_ r12_) fun r13_ =>
                      .t (!r13_)
                        (.l false)
                        (.c ((Int) × (List (List (Int)))) (F_lw_markIntSS (1 : Int) r6_) fun r14_ =>
                          .c ((Int) × (List (List (Int)))) (F_lw_markIntSS r14_.1 r7_) fun r15_ =>
                          .t (decide (r15_.1 < (0 : Int)))
                            (.l false)
                            (.c (Bool) (F_lw_eqIntS r8_.2 r5_.1) fun r16_ =>
                              .t (!r16_)
                                (.l false)
                                (.t (!(r8_.1 == r5_.2))
                                    (.l false)
                                    (.c ((Int) × (List (Int))) (F_lw_markIntS (1 : Int) r8_.2) fun r17_ =>
                                      .c (Int) (F_lw_heldIntS r17_.2 (1 : Int)) fun r18_ =>
                                      .t (decide (r18_ < (0 : Int)))
                                        (.l false)
                                        (.t (r18_ != r17_.1)
                                            (.l false)
                                            (.c (List (List (Int))) (F_lw_toIntSS a1_) fun r19_ =>
                                              .c (List (List (Int))) (F_lw_toIntSS a2_) fun r20_ =>
                                              .c ((Bool) × (List (Int))) (F_im_BestHubs r19_ r20_ a3_ a4_) fun r21_ =>
                                              .c (Bool) (F_lw_eqIntS r21_.2 r5_.1) fun r22_ =>
                                              .t (!r22_)
                                                (.l false)
                                                (.t (!(r21_.1 == r5_.2))
                                                    (.l false)
                                                    (.c (Int) (F_lw_heldIntS r17_.2 (1 : Int)) fun r23_ =>
                                                      .t (decide (r23_ < (0 : Int)))
                                                        (.l false)
                                                        (.t (r23_ != r17_.1)
                                                            (.l false)
                                                            (.l true)))))))))))))))
noncomputable def F_lw_FnExactBestHubs (a1_ : List (List (Int))) (a2_ : List (List (Int))) (a3_ : Int) (a4_ : Int) : Option (Bool) := (T_lw_FnExactBestHubs a1_ a2_ a3_ a4_).ev
noncomputable def A_lw_FnExactBestHubs : Sh := (.cons (.dat (.slice (.slice (.int .i64)))) (.cons (.dat (.slice (.slice (.int .i64)))) (.cons (.dat (.int .i64)) (.cons (.dat (.int .i64)) .nil))))
noncomputable def I_lw_FnExactBestHubs : List (Nat × OSh) := []
noncomputable def K_lw_FnExactBestHubs : RetK := { acts := [], res := [.tmp 8], sh := (.cons (.dat .bool) .nil), obs := [], pins := [] }
noncomputable def D_lw_FnExactBestHubs : FD where
  A := A_lw_FnExactBestHubs
  ins := I_lw_FnExactBestHubs
  lend := []
  R := Bool
  F := fun x => F_lw_FnExactBestHubs x.1.1 x.1.2.1 x.1.2.2.1 x.1.2.2.2.1
  emb := fun r => ([.dat .bool r], [])
noncomputable def E_lw_FnExactBestHubs : Env := envOf [(12, D_lw_szIntSS), (14, D_lw_toIntSS), (30, D_sp_BestHubs), (31, D_im_BestHubs), (16, D_lw_eqIntS), (17, D_lw_eqIntSS), (18, D_lw_markIntSS), (19, D_lw_markIntS), (20, D_lw_heldIntS)]
noncomputable def Z_lw_FnExactBestHubs : Nat → Nat → List Nat := fun r i => match look [(8, [(6, [33, 35])])] r with
  | some l => (look l i).getD []
  | none => []
noncomputable def O_lw_FnExactBestHubs : List (Nat × LD) := []
noncomputable def C_lw_FnExactBestHubs : Code := (f6.body).getD .skip
end Go.Proofs.Ytlemejhffpkbkaa
