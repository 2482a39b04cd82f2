import Derived.Test.YthkafleokepjeaaB37
import Derived.Test.YthkafleokepjeaaProg
namespace Go.Proofs.Ythkafleokepjeaa
open Go.Proofs.Try

noncomputable def tabl : List (Nat × TD) := [(3, .sc (.int .i64)), (4, .sc .bool), (9, .sc .str), (22, .sl 29 (.slice (.int .i64)) 24), (29, .sl 3 (.int .i64) 8), (31, .st (.pair (.slice (.int .i64)) (.slice (.slice (.int .i64)))) [(29, (.slice (.int .i64))), (22, (.slice (.slice (.int .i64))))]), (33, .st (.pair (.slice (.int .i64)) (.slice (.slice (.int .i64)))) [(29, (.slice (.int .i64))), (22, (.slice (.slice (.int .i64))))]), (35, .st (.pair (.pair (.slice (.int .i64)) (.slice (.slice (.int .i64)))) (.pair (.slice (.int .i64)) (.int .i64))) [(33, (.pair (.slice (.int .i64)) (.slice (.slice (.int .i64))))), (29, (.slice (.int .i64))), (3, (.int .i64))]), (45, .st (.pair (.pair (.slice (.int .i64)) (.slice (.slice (.int .i64)))) (.pair (.slice (.int .i64)) (.int .i64))) [(31, (.pair (.slice (.int .i64)) (.slice (.slice (.int .i64))))), (29, (.slice (.int .i64))), (3, (.int .i64))]), (56, .st (.pair .str (.pair .str (.int .i64))) [(9, .str), (9, .str), (3, (.int .i64))]), (58, .st (.pair (.pair (.pair (.slice (.int .i64)) (.slice (.slice (.int .i64)))) (.pair (.slice (.int .i64)) (.int .i64))) (.pair .str (.pair .str (.int .i64)))) [(35, (.pair (.pair (.slice (.int .i64)) (.slice (.slice (.int .i64)))) (.pair (.slice (.int .i64)) (.int .i64)))), (56, (.pair .str (.pair .str (.int .i64))))])]

noncomputable def tt : Nat → TD := fun i => match look tabl i with
  | some d => d
  | none => .no

/-! ### 69 loop.example/g01110/laws.szIntS -/

noncomputable def T_lw_szIntS (a1_ : List (Int)) (a2_ : Int) : Tr (Int) :=
  .t (decide ((IntKind.wrap .i64 (a2_ - ((List.length a1_ : Nat) : Int))) < (0 : Int)))
    (.l (-1 : Int))
    (.l (IntKind.wrap .i64 (a2_ - ((List.length a1_ : Nat) : Int))))

noncomputable def F_lw_szIntS (a1_ : List (Int)) (a2_ : Int) : Option (Int) := (T_lw_szIntS a1_ a2_).ev

noncomputable def A_lw_szIntS : Sh := (.cons (.dat (.slice (.int .i64))) (.cons (.dat (.int .i64)) .nil))

noncomputable def I_lw_szIntS : List (Nat × OSh) := []

noncomputable def K_lw_szIntS : RetK := { acts := [], res := [.tmp 4], sh := (.cons (.dat (.int .i64)) .nil), obs := [], pins := [] }

noncomputable def D_lw_szIntS : FD where
  A := A_lw_szIntS
  ins := I_lw_szIntS
  lend := []
  R := Int
  F := fun x => F_lw_szIntS x.1.1 x.1.2.1
  emb := fun r => ([.dat (.int .i64) r], [])

noncomputable def E_lw_szIntS : Env := envOf []

noncomputable def Z_lw_szIntS : Nat → Nat → List Nat := fun _ _ => []

noncomputable def O_lw_szIntS : List (Nat × LD) := []

noncomputable def C_lw_szIntS : Code := (f69.body).getD .skip

/-! ### 15 loop.example/g01110/laws.szIntSS -/

noncomputable def S_lw_szIntSS_0 (k : List (List (Int))) (v : (Int) × (Int)) : Tr (((Int) × (Int)) ⊕ ((Int) ⊕ (Unit))) :=
  .t (decide (v.2 < ((List.length k : Nat) : Int)))
    (.g (inR v.2 (List.length k)) <|
      .c (Int) (F_lw_szIntS (List.getD k (Int.toNat v.2) ([] : List (Int))) v.1) fun r4_ =>
      .t (decide (r4_ < (0 : Int)))
        (.l (.inr (.inr ())))
        (.l (.inl (r4_, (IntKind.wrap .i64 (v.2 + (1 : Int)))))))
    (.l (.inr (.inl v.1)))

noncomputable def L_lw_szIntSS_0 (k : List (List (Int))) (v : (Int) × (Int)) : Option ((Int) ⊕ (Unit)) := iter (fun v => (S_lw_szIntSS_0 k v).ev) v

noncomputable def DL_lw_szIntSS_0 : LD where
  head := { acts := [], S := { slots := [0, 1, 5], sh := (.cons (.dat (.slice (.slice (.int .i64)))) (.cons (.dat (.int .i64)) (.cons (.dat (.int .i64)) .nil))), obs := [] } }
  exits := [(0, { acts := [], S := { slots := [1], sh := (.cons (.dat (.int .i64)) .nil), obs := [] } })]
  rets := { acts := [], S := { slots := [4], sh := (.cons (.dat (.int .i64)) .nil), obs := [] } }
  K := List (List (Int))
  V := (Int) × (Int)
  R := (Int) ⊕ (Unit)
  join := fun k v => ((k, (v.1, (v.2, ()))), ())
  sk := fun t => t.1.1
  sv := fun t => (t.1.2.1, t.1.2.2.1)
  step := S_lw_szIntSS_0
  leaf := fun _ r => .s (Int) (Unit) r (fun a => .l (.exit 0 (mkSt ({ slots := [1], sh := (.cons (.dat (.int .i64)) .nil), obs := [] }) ((a, ()), ())))) (fun _ => .l (.ret (mkSt ({ slots := [4], sh := (.cons (.dat (.int .i64)) .nil), obs := [] }) (((-1 : Int), ()), ()))))

noncomputable def T_lw_szIntSS (a1_ : List (List (Int))) (a2_ : Int) : Tr (Int) :=
  .t (decide ((IntKind.wrap .i64 (a2_ - ((List.length a1_ : Nat) : Int))) < (0 : Int)))
    (.l (-1 : Int))
    (.c ((Int) ⊕ (Unit)) (L_lw_szIntSS_0 a1_ ((IntKind.wrap .i64 (a2_ - ((List.length a1_ : Nat) : Int))), (0 : Int))) fun r7_ =>
      .s (Int) (Unit) r7_
        (fun r8_ => .l r8_)
        (fun _ => .l (-1 : Int)))

noncomputable def F_lw_szIntSS (a1_ : List (List (Int))) (a2_ : Int) : Option (Int) := (T_lw_szIntSS a1_ a2_).ev

noncomputable def A_lw_szIntSS : Sh := (.cons (.dat (.slice (.slice (.int .i64)))) (.cons (.dat (.int .i64)) .nil))

noncomputable def I_lw_szIntSS : List (Nat × OSh) := []

noncomputable def K_lw_szIntSS : RetK := { acts := [], res := [.tmp 4], sh := (.cons (.dat (.int .i64)) .nil), obs := [], pins := [] }

noncomputable def D_lw_szIntSS : FD where
  A := A_lw_szIntSS
  ins := I_lw_szIntSS
  lend := []
  R := Int
  F := fun x => F_lw_szIntSS x.1.1 x.1.2.1
  emb := fun r => ([.dat (.int .i64) r], [])

noncomputable def E_lw_szIntSS : Env := envOf [(69, D_lw_szIntS)]

noncomputable def Z_lw_szIntSS : Nat → Nat → List Nat := fun _ _ => []

noncomputable def O_lw_szIntSS : List (Nat × LD) := [(0, DL_lw_szIntSS_0)]

noncomputable def C_lw_szIntSS : Code := (f15.body).getD .skip

/-! ### 36 loop.example/g01110/laws.toIntS -/

noncomputable def S_lw_toIntS_0 (k : List (Int)) (v : (Int) × (List (Int))) : Tr (((Int) × (List (Int))) ⊕ (List (Int))) :=
  .t (decide (v.1 < ((List.length k : Nat) : Int)))
    (.g (inR v.1 (List.length k)) <|
      .g (inR v.1 (List.length v.2)) <|
      .g (decide ((Int.toNat v.1) < List.length v.2)) <|
      .l (.inl ((IntKind.wrap .i64 (v.1 + (1 : Int))), (List.set v.2 (Int.toNat v.1) (List.getD k (Int.toNat v.1) (0 : Int))))))
    (.l (.inr v.2))

noncomputable def L_lw_toIntS_0 (k : List (Int)) (v : (Int) × (List (Int))) : Option (List (Int)) := iter (fun v => (S_lw_toIntS_0 k v).ev) v

noncomputable def DL_lw_toIntS_0 : LD where
  head := { acts := [], S := { slots := [0, 3, 4], sh := (.cons (.dat (.slice (.int .i64))) (.cons (.arr 7) (.cons (.dat (.int .i64)) .nil))), obs := [(7, .arr 3 (.int .i64))] } }
  exits := [(0, { acts := [], S := { slots := [3], sh := (.cons (.arr 7) .nil), obs := [(7, .arr 3 (.int .i64))] } })]
  rets := { acts := [], S := { slots := [], sh := .nil, obs := [] } }
  K := List (Int)
  V := (Int) × (List (Int))
  R := List (Int)
  join := fun k v => ((k, ((), (v.1, ()))), (v.2, ()))
  sk := fun t => t.1.1
  sv := fun t => (t.1.2.2.1, t.2.1)
  step := S_lw_toIntS_0
  leaf := fun _ r => .l (.exit 0 (mkSt ({ slots := [3], sh := (.cons (.arr 7) .nil), obs := [(7, .arr 3 (.int .i64))] }) (((), ()), (r, ()))))

noncomputable def T_lw_toIntS (a1_ : List (Int)) : Tr (List (Int)) :=
  .g (decide ((0 : Int) ≤ ((List.length a1_ : Nat) : Int)) && decide (((List.length a1_ : Nat) : Int) ≤ ((List.length a1_ : Nat) : Int)) && decide (((8 : Nat) : Int) * ((List.length a1_ : Nat) : Int) ≤ 281474976710656)) <|
  .c (List (Int)) (L_lw_toIntS_0 a1_ ((0 : Int), (List.replicate (Int.toNat ((List.length a1_ : Nat) : Int)) (0 : Int)))) fun r5_ =>
  .l r5_

noncomputable def F_lw_toIntS (a1_ : List (Int)) : Option (List (Int)) := (T_lw_toIntS a1_).ev

noncomputable def A_lw_toIntS : Sh := (.cons (.dat (.slice (.int .i64))) .nil)

noncomputable def I_lw_toIntS : List (Nat × OSh) := []

noncomputable def K_lw_toIntS : RetK := { acts := [.ren 7 0], res := [.tmp 2], sh := (.cons (.arr 0) .nil), obs := [(0, .arr 3 (.int .i64))], pins := [] }

noncomputable def D_lw_toIntS : FD where
  A := A_lw_toIntS
  ins := I_lw_toIntS
  lend := []
  R := List (Int)
  F := fun x => F_lw_toIntS x.1.1
  emb := fun r => ([.arr 0], [(0, .arr 3 (.int .i64) r)])

noncomputable def E_lw_toIntS : Env := envOf []

noncomputable def Z_lw_toIntS : Nat → Nat → List Nat := fun _ _ => []

noncomputable def O_lw_toIntS : List (Nat × LD) := [(0, DL_lw_toIntS_0)]

noncomputable def C_lw_toIntS : Code := (f36.body).getD .skip

/-! ### 17 loop.example/g01110/laws.toIntSS -/

noncomputable def S_lw_toIntSS_0 (k : List (List (Int))) (v : (Int) × (List (List (Int)))) : Tr (((Int) × (List (List (Int)))) ⊕ (List (List (Int)))) :=
  .t (decide (v.1 < ((List.length k : Nat) : Int)))
    (.g (inR v.1 (List.length k)) <|
      .c (List (Int)) (F_lw_toIntS (List.getD k (Int.toNat v.1) ([] : List (Int)))) fun r4_ =>
      .g (inR v.1 (List.length v.2)) <|
      .g (decide ((Int.toNat v.1) < List.length v.2)) <|
      .l (.inl ((IntKind.wrap .i64 (v.1 + (1 : Int))), (List.set v.2 (Int.toNat v.1) r4_))))
    (.l (.inr v.2))

noncomputable def L_lw_toIntSS_0 (k : List (List (Int))) (v : (Int) × (List (List (Int)))) : Option (List (List (Int))) := iter (fun v => (S_lw_toIntSS_0 k v).ev) v

noncomputable def DL_lw_toIntSS_0 : LD where
  head := { acts := [], S := { slots := [0, 3, 4], sh := (.cons (.dat (.slice (.slice (.int .i64)))) (.cons (.arr 7) (.cons (.dat (.int .i64)) .nil))), obs := [(7, .rows 29 3 (.int .i64))] } }
  exits := [(0, { acts := [], S := { slots := [3], sh := (.cons (.arr 7) .nil), obs := [(7, .rows 29 3 (.int .i64))] } })]
  rets := { acts := [], S := { slots := [], sh := .nil, obs := [] } }
  K := List (List (Int))
  V := (Int) × (List (List (Int)))
  R := List (List (Int))
  join := fun k v => ((k, ((), (v.1, ()))), (v.2, ()))
  sk := fun t => t.1.1
  sv := fun t => (t.1.2.2.1, t.2.1)
  step := S_lw_toIntSS_0
  leaf := fun _ r => .l (.exit 0 (mkSt ({ slots := [3], sh := (.cons (.arr 7) .nil), obs := [(7, .rows 29 3 (.int .i64))] }) (((), ()), (r, ()))))

noncomputable def T_lw_toIntSS (a1_ : List (List (Int))) : Tr (List (List (Int))) :=
  .g (decide ((0 : Int) ≤ ((List.length a1_ : Nat) : Int)) && decide (((List.length a1_ : Nat) : Int) ≤ ((List.length a1_ : Nat) : Int)) && decide (((24 : Nat) : Int) * ((List.length a1_ : Nat) : Int) ≤ 281474976710656)) <|
  .c (List (List (Int))) (L_lw_toIntSS_0 a1_ ((0 : Int), (List.replicate (Int.toNat ((List.length a1_ : Nat) : Int)) ([] : List (Int))))) fun r6_ =>
  .l r6_

noncomputable def F_lw_toIntSS (a1_ : List (List (Int))) : Option (List (List (Int))) := (T_lw_toIntSS a1_).ev

noncomputable def A_lw_toIntSS : Sh := (.cons (.dat (.slice (.slice (.int .i64)))) .nil)

noncomputable def I_lw_toIntSS : List (Nat × OSh) := []

noncomputable def K_lw_toIntSS : RetK := { acts := [.ren 7 0], res := [.tmp 2], sh := (.cons (.arr 0) .nil), obs := [(0, .rows 29 3 (.int .i64))], pins := [] }

noncomputable def D_lw_toIntSS : FD where
  A := A_lw_toIntSS
  ins := I_lw_toIntSS
  lend := []
  R := List (List (Int))
  F := fun x => F_lw_toIntSS x.1.1
  emb := fun r => ([.arr 0], [(0, .rows 29 3 (.int .i64) r none)])

noncomputable def E_lw_toIntSS : Env := envOf [(36, D_lw_toIntS)]

noncomputable def Z_lw_toIntSS : Nat → Nat → List Nat := fun r i => match look [(1, [(2, [1000000])])] r with
  | some l => (look l i).getD []
  | none => []

noncomputable def O_lw_toIntSS : List (Nat × LD) := [(0, DL_lw_toIntSS_0)]

noncomputable def C_lw_toIntSS : Code := (f17.body).getD .skip

/-! ### 93 loop.example/g01110/spec.l1In -/

noncomputable def T_sp_l1In (a1_ : Int) (a2_ : Int) (a3_ : Int) : Tr (Bool) :=
  .t (decide (a2_ ≤ a1_))
    (.l (decide (a1_ ≤ a3_)))
    (.l false)

noncomputable def F_sp_l1In (a1_ : Int) (a2_ : Int) (a3_ : Int) : Option (Bool) := (T_sp_l1In a1_ a2_ a3_).ev

noncomputable def A_sp_l1In : Sh := (.cons (.dat (.int .i64)) (.cons (.dat (.int .i64)) (.cons (.dat (.int .i64)) .nil)))

noncomputable def I_sp_l1In : List (Nat × OSh) := []

noncomputable def K_sp_l1In : RetK := { acts := [], res := [.tmp 6], sh := (.cons (.dat .bool) .nil), obs := [], pins := [] }

noncomputable def D_sp_l1In : FD where
  A := A_sp_l1In
  ins := I_sp_l1In
  lend := []
  R := Bool
  F := fun x => F_sp_l1In x.1.1 x.1.2.1 x.1.2.2.1
  emb := fun r => ([.dat .bool r], [])

noncomputable def E_sp_l1In : Env := envOf []

noncomputable def Z_sp_l1In : Nat → Nat → List Nat := fun _ _ => []

noncomputable def O_sp_l1In : List (Nat × LD) := []

noncomputable def C_sp_l1In : Code := (f93.body).getD .skip

/-! ### 118 loop.example/g01110/spec.l2Row -/

noncomputable def S_sp_l2Row_0 (k : (List (Int)) × ((Int) × (Int))) (v : Int) : Tr ((Int) ⊕ ((Unit) ⊕ (Unit))) :=
  .t (decide (v < ((List.length k.1 : Nat) : Int)))
    (.g (inR v (List.length k.1)) <|
      .c (Bool) (F_sp_l1In (List.getD k.1 (Int.toNat v) (0 : Int)) (0 : Int) k.2.2) fun r5_ =>
      .t (!r5_)
        (.l (.inr (.inr ())))
        (.l (.inl (IntKind.wrap .i64 (v + (1 : Int))))))
    (.l (.inr (.inl ())))

noncomputable def L_sp_l2Row_0 (k : (List (Int)) × ((Int) × (Int))) (v : Int) : Option ((Unit) ⊕ (Unit)) := iter (fun v => (S_sp_l2Row_0 k v).ev) v

noncomputable def DL_sp_l2Row_0 : LD where
  head := { acts := [], S := { slots := [0, 1, 2, 7], sh := (.cons (.dat (.slice (.int .i64))) (.cons (.dat (.int .i64)) (.cons (.dat (.int .i64)) (.cons (.dat (.int .i64)) .nil)))), obs := [] } }
  exits := [(0, { acts := [], S := { slots := [0, 1], sh := (.cons (.dat (.slice (.int .i64))) (.cons (.dat (.int .i64)) .nil)), obs := [] } })]
  rets := { acts := [], S := { slots := [6], sh := (.cons (.dat .bool) .nil), obs := [] } }
  K := (List (Int)) × ((Int) × (Int))
  V := Int
  R := (Unit) ⊕ (Unit)
  join := fun k v => ((k.1, (k.2.1, (k.2.2, (v, ())))), ())
  sk := fun t => (t.1.1, (t.1.2.1, t.1.2.2.1))
  sv := fun t => t.1.2.2.2.1
  step := S_sp_l2Row_0
  leaf := fun k r => .s (Unit) (Unit) r (fun _ => .l (.exit 0 (mkSt ({ slots := [0, 1], sh := (.cons (.dat (.slice (.int .i64))) (.cons (.dat (.int .i64)) .nil)), obs := [] }) ((k.1, (k.2.1, ())), ())))) (fun _ => .l (.ret (mkSt ({ slots := [6], sh := (.cons (.dat .bool) .nil), obs := [] }) ((false, ()), ()))))

noncomputable def T_sp_l2Row (a1_ : List (Int)) (a2_ : Int) (a3_ : Int) : Tr (Bool) :=
  .c ((Unit) ⊕ (Unit)) (L_sp_l2Row_0 (a1_, (a2_, a3_)) (0 : Int)) fun r9_ =>
  .s (Unit) (Unit) r9_
    (fun _ => .l (((List.length a1_ : Nat) : Int) == a2_))
    (fun _ => .l false)

noncomputable def F_sp_l2Row (a1_ : List (Int)) (a2_ : Int) (a3_ : Int) : Option (Bool) := (T_sp_l2Row a1_ a2_ a3_).ev

noncomputable def A_sp_l2Row : Sh := (.cons (.dat (.slice (.int .i64))) (.cons (.dat (.int .i64)) (.cons (.dat (.int .i64)) .nil)))

noncomputable def I_sp_l2Row : List (Nat × OSh) := []

noncomputable def K_sp_l2Row : RetK := { acts := [], res := [.tmp 6], sh := (.cons (.dat .bool) .nil), obs := [], pins := [] }

noncomputable def D_sp_l2Row : FD where
  A := A_sp_l2Row
  ins := I_sp_l2Row
  lend := []
  R := Bool
  F := fun x => F_sp_l2Row x.1.1 x.1.2.1 x.1.2.2.1
  emb := fun r => ([.dat .bool r], [])

noncomputable def E_sp_l2Row : Env := envOf [(93, D_sp_l1In)]

noncomputable def Z_sp_l2Row : Nat → Nat → List Nat := fun _ _ => []

noncomputable def O_sp_l2Row : List (Nat × LD) := [(0, DL_sp_l2Row_0)]

noncomputable def C_sp_l2Row : Code := (f118.body).getD .skip

/-! ### 70 loop.example/g01110/spec.l11Ground -/

noncomputable def S_sp_l11Ground_2 (k : (List (List (Int))) × ((Int) × (Int))) (v : Int) : Tr ((Int) ⊕ ((Unit) ⊕ (Unit))) :=
  .t (decide (v < k.2.2))
    (.g (inR k.2.2 (List.length k.1)) <|
      .g (inR v (List.length (List.getD k.1 (Int.toNat k.2.2) ([] : List (Int))))) <|
      .g (inR v (List.length k.1)) <|
      .g (inR k.2.2 (List.length (List.getD k.1 (Int.toNat v) ([] : List (Int))))) <|
      .t ((List.getD (List.getD k.1 (Int.toNat k.2.2) ([] : List (Int))) (Int.toNat v) (0 : Int)) != (List.getD (List.getD k.1 (Int.toNat v) ([] : List (Int))) (Int.toNat k.2.2) (0 : Int)))
        (.l (.inr (.inr ())))
        (.l (.inl (IntKind.wrap .i64 (v + (1 : Int))))))
    (.l (.inr (.inl ())))

noncomputable def L_sp_l11Ground_2 (k : (List (List (Int))) × ((Int) × (Int))) (v : Int) : Option ((Unit) ⊕ (Unit)) := iter (fun v => (S_sp_l11Ground_2 k v).ev) v

noncomputable def DL_sp_l11Ground_2 : LD where
  head := { acts := [], S := { slots := [0, 3, 4, 5], sh := (.cons (.dat (.slice (.slice (.int .i64)))) (.cons (.dat (.int .i64)) (.cons (.dat (.int .i64)) (.cons (.dat (.int .i64)) .nil)))), obs := [] } }
  exits := [(2, { acts := [], S := { slots := [0, 3, 4], sh := (.cons (.dat (.slice (.slice (.int .i64)))) (.cons (.dat (.int .i64)) (.cons (.dat (.int .i64)) .nil))), obs := [] } })]
  rets := { acts := [], S := { slots := [2], sh := (.cons (.dat .bool) .nil), obs := [] } }
  K := (List (List (Int))) × ((Int) × (Int))
  V := Int
  R := (Unit) ⊕ (Unit)
  join := fun k v => ((k.1, (k.2.1, (k.2.2, (v, ())))), ())
  sk := fun t => (t.1.1, (t.1.2.1, t.1.2.2.1))
  sv := fun t => t.1.2.2.2.1
  step := S_sp_l11Ground_2
  leaf := fun k r => .s (Unit) (Unit) r (fun _ => .l (.exit 2 (mkSt ({ slots := [0, 3, 4], sh := (.cons (.dat (.slice (.slice (.int .i64)))) (.cons (.dat (.int .i64)) (.cons (.dat (.int .i64)) .nil))), obs := [] }) ((k.1, (k.2.1, (k.2.2, ()))), ())))) (fun _ => .l (.ret (mkSt ({ slots := [2], sh := (.cons (.dat .bool) .nil), obs := [] }) ((false, ()), ()))))

noncomputable def S_sp_l11Ground_0 (k : (List (List (Int))) × (Int)) (v : Int) : Tr ((Int) ⊕ ((Unit) ⊕ (Unit))) :=
  .t (decide (v < k.2))
    (.g (inR v (List.length k.1)) <|
      .c (Bool) (F_sp_l2Row (List.getD k.1 (Int.toNat v) ([] : List (Int))) k.2 (99 : Int)) fun r4_ =>
      .t (!r4_)
        (.l (.inr (.inr ())))
        (.g (inR v (List.length k.1)) <|
          .g (inR v (List.length (List.getD k.1 (Int.toNat v) ([] : List (Int))))) <|
          .t ((List.getD (List.getD k.1 (Int.toNat v) ([] : List (Int))) (Int.toNat v) (0 : Int)) != (0 : Int))
            (.l (.inr (.inr ())))
            (.c ((Unit) ⊕ (Unit)) (L_sp_l11Ground_2 (k.1, (k.2, v)) (0 : Int)) fun r13_ =>
              .s (Unit) (Unit) r13_
                (fun _ => .l (.inl (IntKind.wrap .i64 (v + (1 : Int)))))
                (fun _ => .l (.inr (.inr ()))))))
    (.l (.inr (.inl ())))

noncomputable def L_sp_l11Ground_0 (k : (List (List (Int))) × (Int)) (v : Int) : Option ((Unit) ⊕ (Unit)) := iter (fun v => (S_sp_l11Ground_0 k v).ev) v

noncomputable def DL_sp_l11Ground_0 : LD where
  head := { acts := [], S := { slots := [0, 3, 4], sh := (.cons (.dat (.slice (.slice (.int .i64)))) (.cons (.dat (.int .i64)) (.cons (.dat (.int .i64)) .nil))), obs := [] } }
  exits := [(0, { acts := [], S := { slots := [3], sh := (.cons (.dat (.int .i64)) .nil), obs := [] } })]
  rets := { acts := [], S := { slots := [2], sh := (.cons (.dat .bool) .nil), obs := [] } }
  K := (List (List (Int))) × (Int)
  V := Int
  R := (Unit) ⊕ (Unit)
  join := fun k v => ((k.1, (k.2, (v, ()))), ())
  sk := fun t => (t.1.1, t.1.2.1)
  sv := fun t => t.1.2.2.1
  step := S_sp_l11Ground_0
  leaf := fun k r => .s (Unit) (Unit) r (fun _ => .l (.exit 0 (mkSt ({ slots := [3], sh := (.cons (.dat (.int .i64)) .nil), obs := [] }) ((k.2, ()), ())))) (fun _ => .l (.ret (mkSt ({ slots := [2], sh := (.cons (.dat .bool) .nil), obs := [] }) ((false, ()), ()))))

noncomputable def T_sp_l11Ground (a1_ : List (List (Int))) : Tr (Bool) :=
  .c ((Unit) ⊕ (Unit)) (L_sp_l11Ground_0 (a1_, ((List.length a1_ : Nat) : Int)) (0 : Int)) fun r18_ =>
  .s (Unit) (Unit) r18_
    (fun _ => .l (decide (((List.length a1_ : Nat) : Int) ≤ (7 : Int))))
    (fun _ => .l false)

noncomputable def F_sp_l11Ground (a1_ : List (List (Int))) : Option (Bool) := (T_sp_l11Ground a1_).ev

noncomputable def A_sp_l11Ground : Sh := (.cons (.dat (.slice (.slice (.int .i64)))) .nil)

noncomputable def I_sp_l11Ground : List (Nat × OSh) := []

noncomputable def K_sp_l11Ground : RetK := { acts := [], res := [.tmp 2], sh := (.cons (.dat .bool) .nil), obs := [], pins := [] }

noncomputable def D_sp_l11Ground : FD where
  A := A_sp_l11Ground
  ins := I_sp_l11Ground
  lend := []
  R := Bool
  F := fun x => F_sp_l11Ground x.1.1
  emb := fun r => ([.dat .bool r], [])

noncomputable def E_sp_l11Ground : Env := envOf [(118, D_sp_l2Row)]

noncomputable def Z_sp_l11Ground : Nat → Nat → List Nat := fun _ _ => []

noncomputable def O_sp_l11Ground : List (Nat × LD) := [(2, DL_sp_l11Ground_2), (0, DL_sp_l11Ground_0)]

noncomputable def C_sp_l11Ground : Code := (f70.body).getD .skip

/-! ### 71 loop.example/g01110/spec.l11Number -/

noncomputable def T_sp_l11Number (a1_ : Int) : Tr (Bool) :=
  .c (Bool) (F_sp_l1In a1_ (1 : Int) (100 : Int)) fun r1_ =>
  .l r1_

noncomputable def F_sp_l11Number (a1_ : Int) : Option (Bool) := (T_sp_l11Number a1_).ev

noncomputable def A_sp_l11Number : Sh := (.cons (.dat (.int .i64)) .nil)

noncomputable def I_sp_l11Number : List (Nat × OSh) := []

noncomputable def K_sp_l11Number : RetK := { acts := [], res := [.tmp 2], sh := (.cons (.dat .bool) .nil), obs := [], pins := [] }

noncomputable def D_sp_l11Number : FD where
  A := A_sp_l11Number
  ins := I_sp_l11Number
  lend := []
  R := Bool
  F := fun x => F_sp_l11Number x.1.1
  emb := fun r => ([.dat .bool r], [])

noncomputable def E_sp_l11Number : Env := envOf [(93, D_sp_l1In)]

noncomputable def Z_sp_l11Number : Nat → Nat → List Nat := fun _ _ => []

noncomputable def O_sp_l11Number : List (Nat × LD) := []

noncomputable def C_sp_l11Number : Code := (f71.body).getD .skip

/-! ### 16 loop.example/g01110/spec.NearGroups -/

noncomputable def S_sp_NearGroups_4 (k : (List (List (Int))) × ((Int) × ((Int) × ((Int) × ((Int) × (List (List (Int)))))))) (v : (Bool) × (Int)) : Tr (((Bool) × (Int)) ⊕ (Bool)) :=
  .g (inR k.2.2.2.2.1 (List.length k.2.2.2.2.2)) <|
  .g (decide ((Int.toNat k.2.2.2.2.1) < List.length k.2.2.2.2.2)) <|
  .t (decide (v.2 < ((List.length (List.getD k.2.2.2.2.2 (Int.toNat k.2.2.2.2.1) ([] : List (Int))) : Nat) : Int)))
    (.t v.1
        (.g (inR k.2.2.2.2.1 (List.length k.2.2.2.2.2)) <|
          .g (decide ((Int.toNat k.2.2.2.2.1) < List.length k.2.2.2.2.2)) <|
          .g (inR v.2 (List.length (List.getD k.2.2.2.2.2 (Int.toNat k.2.2.2.2.1) ([] : List (Int))))) <|
          .g (decide ((Int.toNat v.2) < List.length (List.getD k.2.2.2.2.2 (Int.toNat k.2.2.2.2.1) ([] : List (Int))))) <|
          .g (inR (List.getD (List.getD k.2.2.2.2.2 (Int.toNat k.2.2.2.2.1) ([] : List (Int))) (Int.toNat v.2) (0 : Int)) (List.length k.1)) <|
          .g (inR k.2.2.1 (List.length (List.getD k.1 (Int.toNat (List.getD (List.getD k.2.2.2.2.2 (Int.toNat k.2.2.2.2.1) ([] : List (Int))) (Int.toNat v.2) (0 : Int))) ([] : List (Int))))) <|
          .l (.inl ((decide ((List.getD (List.getD k.1 (Int.toNat (List.getD (List.getD k.2.2.2.2.2 (Int.toNat k.2.2.2.2.1) ([] : List (Int))) (Int.toNat v.2) (0 : Int))) ([] : List (Int))) (Int.toNat k.2.2.1) (0 : Int)) < k.2.1)), (IntKind.wrap .i64 (v.2 + (1 : Int))))))
        (.l (.inl (false, (IntKind.wrap .i64 (v.2 + (1 : Int)))))))
    (.l (.inr v.1))

noncomputable def L_sp_NearGroups_4 (k : (List (List (Int))) × ((Int) × ((Int) × ((Int) × ((Int) × (List (List (Int)))))))) (v : (Bool) × (Int)) : Option (Bool) := iter (fun v => (S_sp_NearGroups_4 k v).ev) v

noncomputable def DL_sp_NearGroups_4 : LD where
  head := { acts := [], S := { slots := [0, 1, 6, 7, 8, 9, 10, 11], sh := (.cons (.dat (.slice (.slice (.int .i64)))) (.cons (.dat (.int .i64)) (.cons (.arr 12) (.cons (.dat (.int .i64)) (.cons (.dat (.int .i64)) (.cons (.dat (.int .i64)) (.cons (.dat .bool) (.cons (.dat (.int .i64)) .nil)))))))), obs := [(12, .rows 29 3 (.int .i64))] } }
  exits := [(4, { acts := [], S := { slots := [0, 1, 6, 7, 8, 9, 10], sh := (.cons (.dat (.slice (.slice (.int .i64)))) (.cons (.dat (.int .i64)) (.cons (.arr 12) (.cons (.dat (.int .i64)) (.cons (.dat (.int .i64)) (.cons (.dat (.int .i64)) (.cons (.dat .bool) .nil))))))), obs := [(12, .rows 29 3 (.int .i64))] } })]
  rets := { acts := [], S := { slots := [], sh := .nil, obs := [] } }
  K := (List (List (Int))) × ((Int) × ((Int) × ((Int) × ((Int) × (List (List (Int)))))))
  V := (Bool) × (Int)
  R := Bool
  join := fun k v => ((k.1, (k.2.1, ((), (k.2.2.1, (k.2.2.2.1, (k.2.2.2.2.1, (v.1, (v.2, ())))))))), (k.2.2.2.2.2, ()))
  sk := fun t => (t.1.1, (t.1.2.1, (t.1.2.2.2.1, (t.1.2.2.2.2.1, (t.1.2.2.2.2.2.1, t.2.1)))))
  sv := fun t => (t.1.2.2.2.2.2.2.1, t.1.2.2.2.2.2.2.2.1)
  step := S_sp_NearGroups_4
  leaf := fun k r => .l (.exit 4 (mkSt ({ slots := [0, 1, 6, 7, 8, 9, 10], sh := (.cons (.dat (.slice (.slice (.int .i64)))) (.cons (.dat (.int .i64)) (.cons (.arr 12) (.cons (.dat (.int .i64)) (.cons (.dat (.int .i64)) (.cons (.dat (.int .i64)) (.cons (.dat .bool) .nil))))))), obs := [(12, .rows 29 3 (.int .i64))] }) ((k.1, (k.2.1, ((), (k.2.2.1, (k.2.2.2.1, (k.2.2.2.2.1, (r, ()))))))), (k.2.2.2.2.2, ()))))

noncomputable def S_sp_NearGroups_2 (k : (List (List (Int))) × ((Int) × ((Int) × (List (List (Int)))))) (v : (Int) × (Int)) : Tr (((Int) × (Int)) ⊕ (Int)) :=
  .t (decide ((0 : Int) ≤ v.2))
    (.c (Bool) (L_sp_NearGroups_4 (k.1, (k.2.1, (k.2.2.1, (v.1, (v.2, k.2.2.2))))) (true, (0 : Int))) fun r28_ =>
      .t r28_
        (.l (.inl (v.2, (IntKind.wrap .i64 (v.2 - (1 : Int))))))
        (.l (.inl (v.1, (IntKind.wrap .i64 (v.2 - (1 : Int)))))))
    (.l (.inr v.1))

noncomputable def L_sp_NearGroups_2 (k : (List (List (Int))) × ((Int) × ((Int) × (List (List (Int)))))) (v : (Int) × (Int)) : Option (Int) := iter (fun v => (S_sp_NearGroups_2 k v).ev) v

noncomputable def DL_sp_NearGroups_2 : LD where
  head := { acts := [], S := { slots := [0, 1, 6, 7, 8, 9], sh := (.cons (.dat (.slice (.slice (.int .i64)))) (.cons (.dat (.int .i64)) (.cons (.arr 12) (.cons (.dat (.int .i64)) (.cons (.dat (.int .i64)) (.cons (.dat (.int .i64)) .nil)))))), obs := [(12, .rows 29 3 (.int .i64))] } }
  exits := [(2, { acts := [], S := { slots := [0, 1, 6, 7, 8], sh := (.cons (.dat (.slice (.slice (.int .i64)))) (.cons (.dat (.int .i64)) (.cons (.arr 12) (.cons (.dat (.int .i64)) (.cons (.dat (.int .i64)) .nil))))), obs := [(12, .rows 29 3 (.int .i64))] } })]
  rets := { acts := [], S := { slots := [], sh := .nil, obs := [] } }
  K := (List (List (Int))) × ((Int) × ((Int) × (List (List (Int)))))
  V := (Int) × (Int)
  R := Int
  join := fun k v => ((k.1, (k.2.1, ((), (k.2.2.1, (v.1, (v.2, ())))))), (k.2.2.2, ()))
  sk := fun t => (t.1.1, (t.1.2.1, (t.1.2.2.2.1, t.2.1)))
  sv := fun t => (t.1.2.2.2.2.1, t.1.2.2.2.2.2.1)
  step := S_sp_NearGroups_2
  leaf := fun k r => .l (.exit 2 (mkSt ({ slots := [0, 1, 6, 7, 8], sh := (.cons (.dat (.slice (.slice (.int .i64)))) (.cons (.dat (.int .i64)) (.cons (.arr 12) (.cons (.dat (.int .i64)) (.cons (.dat (.int .i64)) .nil))))), obs := [(12, .rows 29 3 (.int .i64))] }) ((k.1, (k.2.1, ((), (k.2.2.1, (r, ()))))), (k.2.2.2, ()))))

noncomputable def S_sp_NearGroups_0 (k : (List (List (Int))) × (Int)) (v : (Int) × (List (List (Int)))) : Tr (((Int) × (List (List (Int)))) ⊕ (List (List (Int)))) :=
  .t (decide (v.1 < ((List.length k.1 : Nat) : Int)))
    (.c (Int) (L_sp_NearGroups_2 (k.1, (k.2, (v.1, v.2))) (((List.length v.2 : Nat) : Int), (IntKind.wrap .i64 (((List.length v.2 : Nat) : Int) - (1 : Int))))) fun r34_ =>
      .t (r34_ == ((List.length v.2 : Nat) : Int))
        (.g (decide ((List.length v.2 + 1) * 24 ≤ 140737488355328)) <|
          .g (inR r34_ (List.length (List.set (v.2 ++ [[]]) (List.length v.2) ([] : List (Int))))) <|
          .g (decide ((Int.toNat r34_) < List.length (List.set (v.2 ++ [[]]) (List.length v.2) ([] : List (Int))))) <|
          .g (decide ((List.length (List.getD (List.set (v.2 ++ [[]]) (List.length v.2) ([] : List (Int))) (Int.toNat r34_) ([] : List (Int))) + List.length ([v.1] : List (Int))) * 8 ≤ 140737488355328)) <|
          .g (inR r34_ (List.length (List.set (v.2 ++ [[]]) (List.length v.2) ([] : List (Int))))) <|
          .g (decide ((Int.toNat r34_) < List.length (List.set (v.2 ++ [[]]) (List.length v.2) ([] : List (Int)))) && decide ((Int.toNat r34_) = (Int.toNat r34_))) <|
          .l (.inl ((IntKind.wrap .i64 (v.1 + (1 : Int))), (List.set (List.set (v.2 ++ [[]]) (List.length v.2) ([] : List (Int))) (Int.toNat r34_) ((List.getD (List.set (v.2 ++ [[]]) (List.length v.2) ([] : List (Int))) (Int.toNat r34_) ([] : List (Int))) ++ ([v.1] : List (Int)))))))
        (.g (inR r34_ (List.length v.2)) <|
          .g (decide ((Int.toNat r34_) < List.length v.2)) <|
          .g (decide ((List.length (List.getD v.2 (Int.toNat r34_) ([] : List (Int))) + List.length ([v.1] : List (Int))) * 8 ≤ 140737488355328)) <|
          .g (inR r34_ (List.length v.2)) <|
          .g (decide ((Int.toNat r34_) < List.length v.2) && decide ((Int.toNat r34_) = (Int.toNat r34_))) <|
          .l (.inl ((IntKind.wrap .i64 (v.1 + (1 : Int))), (List.set v.2 (Int.toNat r34_) ((List.getD v.2 (Int.toNat r34_) ([] : List (Int))) ++ ([v.1] : List (Int))))))))
    (.l (.inr v.2))

noncomputable def L_sp_NearGroups_0 (k : (List (List (Int))) × (Int)) (v : (Int) × (List (List (Int)))) : Option (List (List (Int))) := iter (fun v => (S_sp_NearGroups_0 k v).ev) v

noncomputable def DL_sp_NearGroups_0 : LD where
  head := { acts := [], S := { slots := [0, 1, 6, 7], sh := (.cons (.dat (.slice (.slice (.int .i64)))) (.cons (.dat (.int .i64)) (.cons (.arr 12) (.cons (.dat (.int .i64)) .nil)))), obs := [(12, .rows 29 3 (.int .i64))] } }
  exits := [(0, { acts := [], S := { slots := [6], sh := (.cons (.arr 12) .nil), obs := [(12, .rows 29 3 (.int .i64))] } })]
  rets := { acts := [], S := { slots := [], sh := .nil, obs := [] } }
  K := (List (List (Int))) × (Int)
  V := (Int) × (List (List (Int)))
  R := List (List (Int))
  join := fun k v => ((k.1, (k.2, ((), (v.1, ())))), (v.2, ()))
  sk := fun t => (t.1.1, t.1.2.1)
  sv := fun t => (t.1.2.2.2.1, t.2.1)
  step := S_sp_NearGroups_0
  leaf := fun _ r => .l (.exit 0 (mkSt ({ slots := [6], sh := (.cons (.arr 12) .nil), obs := [(12, .rows 29 3 (.int .i64))] }) (((), ()), (r, ()))))

noncomputable def T_sp_NearGroups (a1_ : List (List (Int))) (a2_ : Int) : Tr ((Bool) × (List (List (Int)))) :=
  .c (Bool) (F_sp_l11Ground a1_) fun r1_ =>
  .t (!r1_)
    (.l (false, ([] : List (List (Int)))))
    (.c (Bool) (F_sp_l11Number a2_) fun r2_ =>
      .t (!r2_)
        (.l (false, ([] : List (List (Int)))))
        (.c (List (List (Int))) (L_sp_NearGroups_0 (a1_, a2_) ((0 : Int), ([] : List (List (Int))))) fun r36_ =>
          .l (true, r36_)))

noncomputable def F_sp_NearGroups (a1_ : List (List (Int))) (a2_ : Int) : Option ((Bool) × (List (List (Int)))) := (T_sp_NearGroups a1_ a2_).ev

noncomputable def A_sp_NearGroups : Sh := (.cons (.dat (.slice (.slice (.int .i64)))) (.cons (.dat (.int .i64)) .nil))

noncomputable def I_sp_NearGroups : List (Nat × OSh) := []

noncomputable def K_sp_NearGroups : RetK := { acts := [.ren 12 0], res := [.tmp 4, .tmp 5], sh := (.cons (.arr 0) (.cons (.dat .bool) .nil)), obs := [(0, .rows 29 3 (.int .i64))], pins := [] }

noncomputable def D_sp_NearGroups : FD where
  A := A_sp_NearGroups
  ins := I_sp_NearGroups
  lend := []
  R := (Bool) × (List (List (Int)))
  F := fun x => F_sp_NearGroups x.1.1 x.1.2.1
  emb := fun r => ([.arr 0, .dat .bool r.1], [(0, .rows 29 3 (.int .i64) r.2 none)])

noncomputable def E_sp_NearGroups : Env := envOf [(70, D_sp_l11Ground), (71, D_sp_l11Number)]

noncomputable def Z_sp_NearGroups : Nat → Nat → List Nat := fun r i => match look [(1, [(0, [1000000])])] r with
  | some l => (look l i).getD []
  | none => []

noncomputable def O_sp_NearGroups : List (Nat × LD) := [(4, DL_sp_NearGroups_4), (2, DL_sp_NearGroups_2), (0, DL_sp_NearGroups_0)]

noncomputable def C_sp_NearGroups : Code := (f16.body).getD .skip

/-! ### 170 slices.IndexFunc[[]int,int] -/

noncomputable def S_slices_IndexFunc_Sint_int_0 (k : (List (Int)) × (((HL [(.int .i64)] → Option (Bool))) × (Int))) (v : Int) : Tr ((Int) ⊕ ((Unit) ⊕ (Int))) :=
  .t (decide (v < k.2.2))
    (.g (inR v (List.length k.1)) <|
      .c (Bool) (k.2.1 ((List.getD k.1 (Int.toNat v) (0 : Int)), ())) fun r5_ =>
      .t r5_
        (.l (.inr (.inr v)))
        (.l (.inl (IntKind.wrap .i64 (v + (1 : Int))))))
    (.l (.inr (.inl ())))

noncomputable def L_slices_IndexFunc_Sint_int_0 (k : (List (Int)) × (((HL [(.int .i64)] → Option (Bool))) × (Int))) (v : Int) : Option ((Unit) ⊕ (Int)) := iter (fun v => (S_slices_IndexFunc_Sint_int_0 k v).ev) v

noncomputable def DL_slices_IndexFunc_Sint_int_0 : LD where
  head := { acts := [], S := { slots := [0, 1, 7, 8], sh := (.cons (.dat (.slice (.int .i64))) (.cons (.clo [(.int .i64)] .bool) (.cons (.dat (.int .i64)) (.cons (.dat (.int .i64)) .nil)))), obs := [] } }
  exits := [(0, { acts := [], S := { slots := [], sh := .nil, obs := [] } })]
  rets := { acts := [], S := { slots := [4], sh := (.cons (.dat (.int .i64)) .nil), obs := [] } }
  K := (List (Int)) × (((HL [(.int .i64)] → Option (Bool))) × (Int))
  V := Int
  R := (Unit) ⊕ (Int)
  join := fun k v => ((k.1, (k.2.1, (k.2.2, (v, ())))), ())
  sk := fun t => (t.1.1, (t.1.2.1, t.1.2.2.1))
  sv := fun t => t.1.2.2.2.1
  step := S_slices_IndexFunc_Sint_int_0
  leaf := fun _ r => .s (Unit) (Int) r (fun _ => .l (.exit 0 (mkSt ({ slots := [], sh := .nil, obs := [] }) ((), ())))) (fun b => .l (.ret (mkSt ({ slots := [4], sh := (.cons (.dat (.int .i64)) .nil), obs := [] }) ((b, ()), ()))))

noncomputable def T_slices_IndexFunc_Sint_int (a1_ : List (Int)) (a2_ : (HL [(.int .i64)] → Option (Bool))) : Tr (Int) :=
  .c ((Unit) ⊕ (Int)) (L_slices_IndexFunc_Sint_int_0 (a1_, (a2_, ((List.length a1_ : Nat) : Int))) (0 : Int)) fun r7_ =>
  .s (Unit) (Int) r7_
    (fun _ => .l (-1 : Int))
    (fun r9_ => .l r9_)

noncomputable def F_slices_IndexFunc_Sint_int (a1_ : List (Int)) (a2_ : (HL [(.int .i64)] → Option (Bool))) : Option (Int) := (T_slices_IndexFunc_Sint_int a1_ a2_).ev

noncomputable def A_slices_IndexFunc_Sint_int : Sh := (.cons (.dat (.slice (.int .i64))) (.cons (.clo [(.int .i64)] .bool) .nil))

noncomputable def I_slices_IndexFunc_Sint_int : List (Nat × OSh) := []

noncomputable def K_slices_IndexFunc_Sint_int : RetK := { acts := [], res := [.tmp 4], sh := (.cons (.dat (.int .i64)) .nil), obs := [], pins := [] }

noncomputable def D_slices_IndexFunc_Sint_int : FD where
  A := A_slices_IndexFunc_Sint_int
  ins := I_slices_IndexFunc_Sint_int
  lend := []
  R := Int
  F := fun x => F_slices_IndexFunc_Sint_int x.1.1 x.1.2.1
  emb := fun r => ([.dat (.int .i64) r], [])

noncomputable def E_slices_IndexFunc_Sint_int : Env := envOf []

noncomputable def Z_slices_IndexFunc_Sint_int : Nat → Nat → List Nat := fun _ _ => []

noncomputable def O_slices_IndexFunc_Sint_int : List (Nat × LD) := [(0, DL_slices_IndexFunc_Sint_int_0)]

noncomputable def C_slices_IndexFunc_Sint_int : Code := (f170.body).getD .skip

/-! ### 125 slices.ContainsFunc[[]int,int] -/

noncomputable def T_slices_ContainsFunc_Sint_int (a1_ : List (Int)) (a2_ : (HL [(.int .i64)] → Option (Bool))) : Tr (Bool) :=
  .c (Int) (F_slices_IndexFunc_Sint_int a1_ a2_) fun r1_ =>
  .l (decide ((0 : Int) ≤ r1_))

noncomputable def F_slices_ContainsFunc_Sint_int (a1_ : List (Int)) (a2_ : (HL [(.int .i64)] → Option (Bool))) : Option (Bool) := (T_slices_ContainsFunc_Sint_int a1_ a2_).ev

noncomputable def A_slices_ContainsFunc_Sint_int : Sh := (.cons (.dat (.slice (.int .i64))) (.cons (.clo [(.int .i64)] .bool) .nil))

noncomputable def I_slices_ContainsFunc_Sint_int : List (Nat × OSh) := []

noncomputable def K_slices_ContainsFunc_Sint_int : RetK := { acts := [], res := [.tmp 4], sh := (.cons (.dat .bool) .nil), obs := [], pins := [] }

noncomputable def D_slices_ContainsFunc_Sint_int : FD where
  A := A_slices_ContainsFunc_Sint_int
  ins := I_slices_ContainsFunc_Sint_int
  lend := []
  R := Bool
  F := fun x => F_slices_ContainsFunc_Sint_int x.1.1 x.1.2.1
  emb := fun r => ([.dat .bool r], [])

noncomputable def E_slices_ContainsFunc_Sint_int : Env := envOf [(170, D_slices_IndexFunc_Sint_int)]

noncomputable def Z_slices_ContainsFunc_Sint_int : Nat → Nat → List Nat := fun _ _ => []

noncomputable def O_slices_ContainsFunc_Sint_int : List (Nat × LD) := []

noncomputable def C_slices_ContainsFunc_Sint_int : Code := (f125.body).getD .skip

/-! ### 73 loop.example/g01110/impl.between -/

noncomputable def T_im_between (a1_ : Int) (a2_ : Int) (a3_ : Int) : Tr (Bool) :=
  .t (decide (a2_ ≤ a1_))
    (.l (decide (a1_ ≤ a3_)))
    (.l false)

noncomputable def F_im_between (a1_ : Int) (a2_ : Int) (a3_ : Int) : Option (Bool) := (T_im_between a1_ a2_ a3_).ev

noncomputable def A_im_between : Sh := (.cons (.dat (.int .i64)) (.cons (.dat (.int .i64)) (.cons (.dat (.int .i64)) .nil)))

noncomputable def I_im_between : List (Nat × OSh) := []

noncomputable def K_im_between : RetK := { acts := [], res := [.tmp 6], sh := (.cons (.dat .bool) .nil), obs := [], pins := [] }

noncomputable def D_im_between : FD where
  A := A_im_between
  ins := I_im_between
  lend := []
  R := Bool
  F := fun x => F_im_between x.1.1 x.1.2.1 x.1.2.2.1
  emb := fun r => ([.dat .bool r], [])

noncomputable def E_im_between : Env := envOf []

noncomputable def Z_im_between : Nat → Nat → List Nat := fun _ _ => []

noncomputable def O_im_between : List (Nat × LD) := []

noncomputable def C_im_between : Code := (f73.body).getD .skip

/-! ### 177 loop.example/g01110/impl.areBetween 1 -/

noncomputable def T_im_areBetween_1 (a1_ : Int) (a2_ : Int) (a3_ : Int) : Tr (Bool) :=
  .c (Bool) (F_im_between a1_ a2_ a3_) fun r1_ =>
  .l (!r1_)

noncomputable def F_im_areBetween_1 (a1_ : Int) (a2_ : Int) (a3_ : Int) : Option (Bool) := (T_im_areBetween_1 a1_ a2_ a3_).ev

noncomputable def A_im_areBetween_1 : Sh := (.cons (.dat (.int .i64)) (.cons (.ptr (.cons (.dat (.int .i64)) .nil)) (.cons (.ptr (.cons (.dat (.int .i64)) .nil)) .nil)))

noncomputable def I_im_areBetween_1 : List (Nat × OSh) := []

noncomputable def K_im_areBetween_1 : RetK := { acts := [], res := [.tmp 4], sh := (.cons (.dat .bool) .nil), obs := [], pins := [] }

noncomputable def D_im_areBetween_1 : FD where
  A := A_im_areBetween_1
  ins := I_im_areBetween_1
  lend := []
  R := Bool
  F := fun x => F_im_areBetween_1 x.1.1 x.1.2.1.1 x.1.2.2.1.1
  emb := fun r => ([.dat .bool r], [])

noncomputable def E_im_areBetween_1 : Env := envOf [(73, D_im_between)]

noncomputable def Z_im_areBetween_1 : Nat → Nat → List Nat := fun _ _ => []

noncomputable def O_im_areBetween_1 : List (Nat × LD) := []

noncomputable def C_im_areBetween_1 : Code := (f177.body).getD .skip

/-! ### 136 loop.example/g01110/impl.areBetween -/

noncomputable def T_im_areBetween (a1_ : List (Int)) (a2_ : Int) (a3_ : Int) : Tr (Bool) :=
  .c (Bool) (F_slices_ContainsFunc_Sint_int a1_ (fun h1_ => Option.bind (F_im_areBetween_1 h1_.1 a2_ a3_) fun y2_ => some y2_)) fun r3_ =>
  .l (!r3_)

noncomputable def F_im_areBetween (a1_ : List (Int)) (a2_ : Int) (a3_ : Int) : Option (Bool) := (T_im_areBetween a1_ a2_ a3_).ev

noncomputable def A_im_areBetween : Sh := (.cons (.dat (.slice (.int .i64))) (.cons (.dat (.int .i64)) (.cons (.dat (.int .i64)) .nil)))

noncomputable def I_im_areBetween : List (Nat × OSh) := []

noncomputable def K_im_areBetween : RetK := { acts := [], res := [.tmp 6], sh := (.cons (.dat .bool) .nil), obs := [], pins := [] }

noncomputable def D_im_areBetween : FD where
  A := A_im_areBetween
  ins := I_im_areBetween
  lend := []
  R := Bool
  F := fun x => F_im_areBetween x.1.1 x.1.2.1 x.1.2.2.1
  emb := fun r => ([.dat .bool r], [])

noncomputable def E_im_areBetween : Env := envOf [(125, D_slices_ContainsFunc_Sint_int), (177, D_im_areBetween_1)]

noncomputable def Z_im_areBetween : Nat → Nat → List Nat := fun _ _ => []

noncomputable def O_im_areBetween : List (Nat × LD) := []

noncomputable def C_im_areBetween : Code := (f136.body).getD .skip

/-! ### 72 loop.example/g01110/impl.IsGround -/

noncomputable def S_im_IsGround_0 (k : (List (List (Int))) × ((List (List (Int))) × (Int))) (v : Int) : Tr ((Int) ⊕ ((Unit) ⊕ (Unit))) :=
  .t (decide (v < k.2.2))
    (.g (inR v (List.length k.2.1)) <|
      .t (((List.length (List.getD k.2.1 (Int.toNat v) ([] : List (Int))) : Nat) : Int) != ((List.length k.1 : Nat) : Int))
        (.l (.inr (.inr ())))
        (.c (Bool) (F_im_areBetween (List.getD k.2.1 (Int.toNat v) ([] : List (Int))) (0 : Int) (99 : Int)) fun r5_ =>
          .t (!r5_)
            (.l (.inr (.inr ())))
            (.l (.inl (IntKind.wrap .i64 (v + (1 : Int)))))))
    (.l (.inr (.inl ())))

noncomputable def L_im_IsGround_0 (k : (List (List (Int))) × ((List (List (Int))) × (Int))) (v : Int) : Option ((Unit) ⊕ (Unit)) := iter (fun v => (S_im_IsGround_0 k v).ev) v

noncomputable def DL_im_IsGround_0 : LD where
  head := { acts := [], S := { slots := [0, 12, 13, 14], sh := (.cons (.dat (.slice (.slice (.int .i64)))) (.cons (.dat (.slice (.slice (.int .i64)))) (.cons (.dat (.int .i64)) (.cons (.dat (.int .i64)) .nil)))), obs := [] } }
  exits := [(0, { acts := [], S := { slots := [0], sh := (.cons (.dat (.slice (.slice (.int .i64)))) .nil), obs := [] } })]
  rets := { acts := [], S := { slots := [2], sh := (.cons (.dat .bool) .nil), obs := [] } }
  K := (List (List (Int))) × ((List (List (Int))) × (Int))
  V := Int
  R := (Unit) ⊕ (Unit)
  join := fun k v => ((k.1, (k.2.1, (k.2.2, (v, ())))), ())
  sk := fun t => (t.1.1, (t.1.2.1, t.1.2.2.1))
  sv := fun t => t.1.2.2.2.1
  step := S_im_IsGround_0
  leaf := fun k r => .s (Unit) (Unit) r (fun _ => .l (.exit 0 (mkSt ({ slots := [0], sh := (.cons (.dat (.slice (.slice (.int .i64)))) .nil), obs := [] }) ((k.1, ()), ())))) (fun _ => .l (.ret (mkSt ({ slots := [2], sh := (.cons (.dat .bool) .nil), obs := [] }) ((false, ()), ()))))

noncomputable def S_im_IsGround_4 (k : (List (List (Int))) × ((Int) × ((List (List (Int))) × ((Int) × ((Int) × ((List (Int)) × (Int))))))) (v : Int) : Tr ((Int) ⊕ ((Unit) ⊕ (Unit))) :=
  .t (decide (v < k.2.2.2.2.2.2))
    (.g (inR v (List.length k.2.2.2.2.2.1)) <|
      .g (inR v (List.length k.1)) <|
      .g (inR k.2.1 (List.length (List.getD k.1 (Int.toNat v) ([] : List (Int))))) <|
      .t ((List.getD k.2.2.2.2.2.1 (Int.toNat v) (0 : Int)) != (List.getD (List.getD k.1 (Int.toNat v) ([] : List (Int))) (Int.toNat k.2.1) (0 : Int)))
        (.l (.inr (.inr ())))
        (.t (k.2.1 == v)
            (.t ((List.getD k.2.2.2.2.2.1 (Int.toNat v) (0 : Int)) != (0 : Int))
                (.l (.inr (.inr ())))
                (.l (.inl (IntKind.wrap .i64 (v + (1 : Int))))))
            (.l (.inl (IntKind.wrap .i64 (v + (1 : Int)))))))
    (.l (.inr (.inl ())))

noncomputable def L_im_IsGround_4 (k : (List (List (Int))) × ((Int) × ((List (List (Int))) × ((Int) × ((Int) × ((List (Int)) × (Int))))))) (v : Int) : Option ((Unit) ⊕ (Unit)) := iter (fun v => (S_im_IsGround_4 k v).ev) v

noncomputable def DL_im_IsGround_4 : LD where
  head := { acts := [], S := { slots := [0, 5, 29, 30, 31, 36, 37, 38], sh := (.cons (.dat (.slice (.slice (.int .i64)))) (.cons (.dat (.int .i64)) (.cons (.dat (.slice (.slice (.int .i64)))) (.cons (.dat (.int .i64)) (.cons (.dat (.int .i64)) (.cons (.dat (.slice (.int .i64))) (.cons (.dat (.int .i64)) (.cons (.dat (.int .i64)) .nil)))))))), obs := [] } }
  exits := [(4, { acts := [], S := { slots := [0, 29, 30, 31], sh := (.cons (.dat (.slice (.slice (.int .i64)))) (.cons (.dat (.slice (.slice (.int .i64)))) (.cons (.dat (.int .i64)) (.cons (.dat (.int .i64)) .nil)))), obs := [] } })]
  rets := { acts := [], S := { slots := [2], sh := (.cons (.dat .bool) .nil), obs := [] } }
  K := (List (List (Int))) × ((Int) × ((List (List (Int))) × ((Int) × ((Int) × ((List (Int)) × (Int))))))
  V := Int
  R := (Unit) ⊕ (Unit)
  join := fun k v => ((k.1, (k.2.1, (k.2.2.1, (k.2.2.2.1, (k.2.2.2.2.1, (k.2.2.2.2.2.1, (k.2.2.2.2.2.2, (v, ())))))))), ())
  sk := fun t => (t.1.1, (t.1.2.1, (t.1.2.2.1, (t.1.2.2.2.1, (t.1.2.2.2.2.1, (t.1.2.2.2.2.2.1, t.1.2.2.2.2.2.2.1))))))
  sv := fun t => t.1.2.2.2.2.2.2.2.1
  step := S_im_IsGround_4
  leaf := fun k r => .s (Unit) (Unit) r (fun _ => .l (.exit 4 (mkSt ({ slots := [0, 29, 30, 31], sh := (.cons (.dat (.slice (.slice (.int .i64)))) (.cons (.dat (.slice (.slice (.int .i64)))) (.cons (.dat (.int .i64)) (.cons (.dat (.int .i64)) .nil)))), obs := [] }) ((k.1, (k.2.2.1, (k.2.2.2.1, (k.2.2.2.2.1, ())))), ())))) (fun _ => .l (.ret (mkSt ({ slots := [2], sh := (.cons (.dat .bool) .nil), obs := [] }) ((false, ()), ()))))

noncomputable def S_im_IsGround_2 (k : (List (List (Int))) × ((List (List (Int))) × (Int))) (v : Int) : Tr ((Int) ⊕ ((Unit) ⊕ (Unit))) :=
  .t (decide (v < k.2.2))
    (.g (inR v (List.length k.2.1)) <|
      .c ((Unit) ⊕ (Unit)) (L_im_IsGround_4 (k.1, (v, (k.2.1, (k.2.2, (v, ((List.getD k.2.1 (Int.toNat v) ([] : List (Int))), ((List.length (List.getD k.2.1 (Int.toNat v) ([] : List (Int))) : Nat) : Int))))))) (0 : Int)) fun r28_ =>
      .s (Unit) (Unit) r28_
        (fun _ => .l (.inl (IntKind.wrap .i64 (v + (1 : Int)))))
        (fun _ => .l (.inr (.inr ()))))
    (.l (.inr (.inl ())))

noncomputable def L_im_IsGround_2 (k : (List (List (Int))) × ((List (List (Int))) × (Int))) (v : Int) : Option ((Unit) ⊕ (Unit)) := iter (fun v => (S_im_IsGround_2 k v).ev) v

noncomputable def DL_im_IsGround_2 : LD where
  head := { acts := [], S := { slots := [0, 29, 30, 31], sh := (.cons (.dat (.slice (.slice (.int .i64)))) (.cons (.dat (.slice (.slice (.int .i64)))) (.cons (.dat (.int .i64)) (.cons (.dat (.int .i64)) .nil)))), obs := [] } }
  exits := [(2, { acts := [], S := { slots := [], sh := .nil, obs := [] } })]
  rets := { acts := [], S := { slots := [2], sh := (.cons (.dat .bool) .nil), obs := [] } }
  K := (List (List (Int))) × ((List (List (Int))) × (Int))
  V := Int
  R := (Unit) ⊕ (Unit)
  join := fun k v => ((k.1, (k.2.1, (k.2.2, (v, ())))), ())
  sk := fun t => (t.1.1, (t.1.2.1, t.1.2.2.1))
  sv := fun t => t.1.2.2.2.1
  step := S_im_IsGround_2
  leaf := fun _ r => .s (Unit) (Unit) r (fun _ => .l (.exit 2 (mkSt ({ slots := [], sh := .nil, obs := [] }) ((), ())))) (fun _ => .l (.ret (mkSt ({ slots := [2], sh := (.cons (.dat .bool) .nil), obs := [] }) ((false, ()), ()))))

noncomputable def T_im_IsGround (a1_ : List (List (Int))) : Tr (Bool) :=
  .t (decide ((7 : Int) < ((List.length a1_ : Nat) : Int)))
    (.l false)
    (.c ((Unit) ⊕ (Unit)) (L_im_IsGround_0 (a1_, (a1_, ((List.length a1_ : Nat) : Int))) (0 : Int)) fun r8_ =>
      .s (Unit) (Unit) r8_
        (fun _ => .c ((Unit) ⊕ (Unit)) (L_im_IsGround_2 (a1_, (a1_, ((List.length a1_ : Nat) : Int))) (0 : Int)) fun r32_ =>
          .s (Unit) (Unit) r32_
            (fun _ => .l true)
            (fun _ => .l false))
        (fun _ => .l false))

noncomputable def F_im_IsGround (a1_ : List (List (Int))) : Option (Bool) := (T_im_IsGround a1_).ev

noncomputable def A_im_IsGround : Sh := (.cons (.dat (.slice (.slice (.int .i64)))) .nil)

noncomputable def I_im_IsGround : List (Nat × OSh) := []

noncomputable def K_im_IsGround : RetK := { acts := [], res := [.tmp 2], sh := (.cons (.dat .bool) .nil), obs := [], pins := [] }

noncomputable def D_im_IsGround : FD where
  A := A_im_IsGround
  ins := I_im_IsGround
  lend := []
  R := Bool
  F := fun x => F_im_IsGround x.1.1
  emb := fun r => ([.dat .bool r], [])

noncomputable def E_im_IsGround : Env := envOf [(136, D_im_areBetween)]

noncomputable def Z_im_IsGround : Nat → Nat → List Nat := fun _ _ => []

noncomputable def O_im_IsGround : List (Nat × LD) := [(0, DL_im_IsGround_0), (4, DL_im_IsGround_4), (2, DL_im_IsGround_2)]

noncomputable def C_im_IsGround : Code := (f72.body).getD .skip

/-! ### 74 slices.IndexFunc[[][]int,[]int] -/

noncomputable def S_slices_IndexFunc_SSint_Sint_0 (k : (List (List (Int))) × (((HL [(.slice (.int .i64))] → Option (Bool))) × (Int))) (v : Int) : Tr ((Int) ⊕ ((Unit) ⊕ (Int))) :=
  .t (decide (v < k.2.2))
    (.g (inR v (List.length k.1)) <|
      .c (Bool) (k.2.1 ((List.getD k.1 (Int.toNat v) ([] : List (Int))), ())) fun r5_ =>
      .t r5_
        (.l (.inr (.inr v)))
        (.l (.inl (IntKind.wrap .i64 (v + (1 : Int))))))
    (.l (.inr (.inl ())))

noncomputable def L_slices_IndexFunc_SSint_Sint_0 (k : (List (List (Int))) × (((HL [(.slice (.int .i64))] → Option (Bool))) × (Int))) (v : Int) : Option ((Unit) ⊕ (Int)) := iter (fun v => (S_slices_IndexFunc_SSint_Sint_0 k v).ev) v

noncomputable def DL_slices_IndexFunc_SSint_Sint_0 : LD where
  head := { acts := [], S := { slots := [0, 1, 7, 8], sh := (.cons (.dat (.slice (.slice (.int .i64)))) (.cons (.clo [(.slice (.int .i64))] .bool) (.cons (.dat (.int .i64)) (.cons (.dat (.int .i64)) .nil)))), obs := [] } }
  exits := [(0, { acts := [], S := { slots := [], sh := .nil, obs := [] } })]
  rets := { acts := [], S := { slots := [4], sh := (.cons (.dat (.int .i64)) .nil), obs := [] } }
  K := (List (List (Int))) × (((HL [(.slice (.int .i64))] → Option (Bool))) × (Int))
  V := Int
  R := (Unit) ⊕ (Int)
  join := fun k v => ((k.1, (k.2.1, (k.2.2, (v, ())))), ())
  sk := fun t => (t.1.1, (t.1.2.1, t.1.2.2.1))
  sv := fun t => t.1.2.2.2.1
  step := S_slices_IndexFunc_SSint_Sint_0
  leaf := fun _ r => .s (Unit) (Int) r (fun _ => .l (.exit 0 (mkSt ({ slots := [], sh := .nil, obs := [] }) ((), ())))) (fun b => .l (.ret (mkSt ({ slots := [4], sh := (.cons (.dat (.int .i64)) .nil), obs := [] }) ((b, ()), ()))))

noncomputable def T_slices_IndexFunc_SSint_Sint (a1_ : List (List (Int))) (a2_ : (HL [(.slice (.int .i64))] → Option (Bool))) : Tr (Int) :=
  .c ((Unit) ⊕ (Int)) (L_slices_IndexFunc_SSint_Sint_0 (a1_, (a2_, ((List.length a1_ : Nat) : Int))) (0 : Int)) fun r7_ =>
  .s (Unit) (Int) r7_
    (fun _ => .l (-1 : Int))
    (fun r9_ => .l r9_)

noncomputable def F_slices_IndexFunc_SSint_Sint (a1_ : List (List (Int))) (a2_ : (HL [(.slice (.int .i64))] → Option (Bool))) : Option (Int) := (T_slices_IndexFunc_SSint_Sint a1_ a2_).ev

noncomputable def A_slices_IndexFunc_SSint_Sint : Sh := (.cons (.dat (.slice (.slice (.int .i64)))) (.cons (.clo [(.slice (.int .i64))] .bool) .nil))

noncomputable def I_slices_IndexFunc_SSint_Sint : List (Nat × OSh) := []

noncomputable def K_slices_IndexFunc_SSint_Sint : RetK := { acts := [], res := [.tmp 4], sh := (.cons (.dat (.int .i64)) .nil), obs := [], pins := [] }

noncomputable def D_slices_IndexFunc_SSint_Sint : FD where
  A := A_slices_IndexFunc_SSint_Sint
  ins := I_slices_IndexFunc_SSint_Sint
  lend := []
  R := Int
  F := fun x => F_slices_IndexFunc_SSint_Sint x.1.1 x.1.2.1
  emb := fun r => ([.dat (.int .i64) r], [])

noncomputable def E_slices_IndexFunc_SSint_Sint : Env := envOf []

noncomputable def Z_slices_IndexFunc_SSint_Sint : Nat → Nat → List Nat := fun _ _ => []

noncomputable def O_slices_IndexFunc_SSint_Sint : List (Nat × LD) := [(0, DL_slices_IndexFunc_SSint_Sint_0)]

noncomputable def C_slices_IndexFunc_SSint_Sint : Code := (f74.body).getD .skip

/-! ### 137 loop.example/g01110/impl.isNear 1 -/

noncomputable def T_im_isNear_1 (a1_ : Int) (a2_ : List (List (Int))) (a3_ : Int) (a4_ : Int) : Tr (Bool) :=
  .g (inR a3_ (List.length a2_)) <|
  .g (inR a1_ (List.length (List.getD a2_ (Int.toNat a3_) ([] : List (Int))))) <|
  .l (decide (a4_ ≤ (List.getD (List.getD a2_ (Int.toNat a3_) ([] : List (Int))) (Int.toNat a1_) (0 : Int))))

noncomputable def F_im_isNear_1 (a1_ : Int) (a2_ : List (List (Int))) (a3_ : Int) (a4_ : Int) : Option (Bool) := (T_im_isNear_1 a1_ a2_ a3_ a4_).ev

noncomputable def A_im_isNear_1 : Sh := (.cons (.dat (.int .i64)) (.cons (.ptr (.cons (.dat (.slice (.slice (.int .i64)))) .nil)) (.cons (.ptr (.cons (.dat (.int .i64)) .nil)) (.cons (.ptr (.cons (.dat (.int .i64)) .nil)) .nil))))

noncomputable def I_im_isNear_1 : List (Nat × OSh) := []

noncomputable def K_im_isNear_1 : RetK := { acts := [], res := [.tmp 5], sh := (.cons (.dat .bool) .nil), obs := [], pins := [] }

noncomputable def D_im_isNear_1 : FD where
  A := A_im_isNear_1
  ins := I_im_isNear_1
  lend := []
  R := Bool
  F := fun x => F_im_isNear_1 x.1.1 x.1.2.1.1 x.1.2.2.1.1 x.1.2.2.2.1.1
  emb := fun r => ([.dat .bool r], [])

noncomputable def E_im_isNear_1 : Env := envOf []

noncomputable def Z_im_isNear_1 : Nat → Nat → List Nat := fun _ _ => []

noncomputable def O_im_isNear_1 : List (Nat × LD) := []

noncomputable def C_im_isNear_1 : Code := (f137.body).getD .skip

/-! ### 76 loop.example/g01110/impl.isNear -/

noncomputable def T_im_isNear (a1_ : List (List (Int))) (a2_ : Int) (a3_ : List (Int)) (a4_ : Int) : Tr (Bool) :=
  .c (Bool) (F_slices_ContainsFunc_Sint_int a3_ (fun h1_ => Option.bind (F_im_isNear_1 h1_.1 a1_ a2_ a4_) fun y2_ => some y2_)) fun r3_ =>
  .l (!r3_)

noncomputable def F_im_isNear (a1_ : List (List (Int))) (a2_ : Int) (a3_ : List (Int)) (a4_ : Int) : Option (Bool) := (T_im_isNear a1_ a2_ a3_ a4_).ev

noncomputable def A_im_isNear : Sh := (.cons (.dat (.slice (.slice (.int .i64)))) (.cons (.dat (.int .i64)) (.cons (.dat (.slice (.int .i64))) (.cons (.dat (.int .i64)) .nil))))

noncomputable def I_im_isNear : List (Nat × OSh) := []

noncomputable def K_im_isNear : RetK := { acts := [], res := [.tmp 8], sh := (.cons (.dat .bool) .nil), obs := [], pins := [] }

noncomputable def D_im_isNear : FD where
  A := A_im_isNear
  ins := I_im_isNear
  lend := []
  R := Bool
  F := fun x => F_im_isNear x.1.1 x.1.2.1 x.1.2.2.1 x.1.2.2.2.1
  emb := fun r => ([.dat .bool r], [])

noncomputable def E_im_isNear : Env := envOf [(125, D_slices_ContainsFunc_Sint_int), (137, D_im_isNear_1)]

noncomputable def Z_im_isNear : Nat → Nat → List Nat := fun _ _ => []

noncomputable def O_im_isNear : List (Nat × LD) := []

noncomputable def C_im_isNear : Code := (f76.body).getD .skip

/-! ### 75 loop.example/g01110/impl.NearGroups 1 -/

noncomputable def T_im_NearGroups_1 (a1_ : List (Int)) (a2_ : List (List (Int))) (a3_ : Int) (a4_ : Int) : Tr (Bool) :=
  .c (Bool) (F_im_isNear a2_ a3_ a1_ a4_) fun r1_ =>
  .l r1_

noncomputable def F_im_NearGroups_1 (a1_ : List (Int)) (a2_ : List (List (Int))) (a3_ : Int) (a4_ : Int) : Option (Bool) := (T_im_NearGroups_1 a1_ a2_ a3_ a4_).ev

noncomputable def A_im_NearGroups_1 : Sh := (.cons (.dat (.slice (.int .i64))) (.cons (.ptr (.cons (.dat (.slice (.slice (.int .i64)))) .nil)) (.cons (.ptr (.cons (.dat (.int .i64)) .nil)) (.cons (.ptr (.cons (.dat (.int .i64)) .nil)) .nil))))

noncomputable def I_im_NearGroups_1 : List (Nat × OSh) := []

noncomputable def K_im_NearGroups_1 : RetK := { acts := [], res := [.tmp 5], sh := (.cons (.dat .bool) .nil), obs := [], pins := [] }

noncomputable def D_im_NearGroups_1 : FD where
  A := A_im_NearGroups_1
  ins := I_im_NearGroups_1
  lend := []
  R := Bool
  F := fun x => F_im_NearGroups_1 x.1.1 x.1.2.1.1 x.1.2.2.1.1 x.1.2.2.2.1.1
  emb := fun r => ([.dat .bool r], [])

noncomputable def E_im_NearGroups_1 : Env := envOf [(76, D_im_isNear)]

noncomputable def Z_im_NearGroups_1 : Nat → Nat → List Nat := fun _ _ => []

noncomputable def O_im_NearGroups_1 : List (Nat × LD) := []

noncomputable def C_im_NearGroups_1 : Code := (f75.body).getD .skip

/-! ### 18 loop.example/g01110/impl.NearGroups -/

noncomputable def S_im_NearGroups_0 (k : (Int) × ((List (List (Int))) × (Int))) (v : (Int) × (List (List (Int)))) : Tr (((Int) × (List (List (Int)))) ⊕ (List (List (Int)))) :=
  .t (decide (v.1 < k.1))
    (.c (Int) (F_slices_IndexFunc_SSint_Sint v.2 (fun h8_ => Option.bind (F_im_NearGroups_1 h8_.1 k.2.1 v.1 k.2.2) fun y9_ => some y9_)) fun r10_ =>
      .t (decide (r10_ < (0 : Int)))
        (.g (decide ((List.length v.2 + 1) * 24 ≤ 140737488355328)) <|
          .l (.inl ((IntKind.wrap .i64 (v.1 + (1 : Int))), (List.set (v.2 ++ [[]]) (List.length v.2) ([v.1] : List (Int))))))
        (.g (inR r10_ (List.length v.2)) <|
          .g (decide ((Int.toNat r10_) < List.length v.2)) <|
          .g (decide ((List.length (List.getD v.2 (Int.toNat r10_) ([] : List (Int))) + List.length ([v.1] : List (Int))) * 8 ≤ 140737488355328)) <|
          .g (inR r10_ (List.length v.2)) <|
          .g (decide ((Int.toNat r10_) < List.length v.2) && decide ((Int.toNat r10_) = (Int.toNat r10_))) <|
          .l (.inl ((IntKind.wrap .i64 (v.1 + (1 : Int))), (List.set v.2 (Int.toNat r10_) ((List.getD v.2 (Int.toNat r10_) ([] : List (Int))) ++ ([v.1] : List (Int))))))))
    (.l (.inr v.2))

noncomputable def L_im_NearGroups_0 (k : (Int) × ((List (List (Int))) × (Int))) (v : (Int) × (List (List (Int)))) : Option (List (List (Int))) := iter (fun v => (S_im_NearGroups_0 k v).ev) v

noncomputable def DL_im_NearGroups_0 : LD where
  head := { acts := [], S := { slots := [2, 3, 6, 19, 20], sh := (.cons (.box 2 0) (.cons (.box 3 0) (.cons (.arr 17) (.cons (.dat (.int .i64)) (.cons (.dat (.int .i64)) .nil))))), obs := [(2, .cells (.cons (.dat (.slice (.slice (.int .i64)))) .nil)), (3, .cells (.cons (.dat (.int .i64)) .nil)), (17, .rows 29 3 (.int .i64))] } }
  exits := [(0, { acts := [], S := { slots := [6], sh := (.cons (.arr 17) .nil), obs := [(17, .rows 29 3 (.int .i64))] } })]
  rets := { acts := [], S := { slots := [], sh := .nil, obs := [] } }
  K := (Int) × ((List (List (Int))) × (Int))
  V := (Int) × (List (List (Int)))
  R := List (List (Int))
  join := fun k v => (((), ((), ((), (k.1, (v.1, ()))))), ((k.2.1, ()), ((k.2.2, ()), (v.2, ()))))
  sk := fun t => (t.1.2.2.2.1, (t.2.1.1, t.2.2.1.1))
  sv := fun t => (t.1.2.2.2.2.1, t.2.2.2.1)
  step := S_im_NearGroups_0
  leaf := fun _ r => .l (.exit 0 (mkSt ({ slots := [6], sh := (.cons (.arr 17) .nil), obs := [(17, .rows 29 3 (.int .i64))] }) (((), ()), (r, ()))))

noncomputable def T_im_NearGroups (a1_ : List (List (Int))) (a2_ : Int) : Tr ((Bool) × (List (List (Int)))) :=
  .c (Bool) (F_im_IsGround a1_) fun r1_ =>
  .t (!r1_)
    (.l (false, ([] : List (List (Int)))))
    (.c (Bool) (F_im_between a2_ (1 : Int) (100 : Int)) fun r2_ =>
      .t (!r2_)
        (.l (false, ([] : List (List (Int)))))
        (.c (List (List (Int))) (L_im_NearGroups_0 (((List.length a1_ : Nat) : Int), (a1_, a2_)) ((0 : Int), ([] : List (List (Int))))) fun r12_ =>
          .l (true, r12_)))

noncomputable def F_im_NearGroups (a1_ : List (List (Int))) (a2_ : Int) : Option ((Bool) × (List (List (Int)))) := (T_im_NearGroups a1_ a2_).ev

noncomputable def A_im_NearGroups : Sh := (.cons (.dat (.slice (.slice (.int .i64)))) (.cons (.dat (.int .i64)) .nil))

noncomputable def I_im_NearGroups : List (Nat × OSh) := []

noncomputable def K_im_NearGroups : RetK := { acts := [.ownR 4 0 29 3 (.int .i64), .ren 17 0], res := [.tmp 4, .tmp 5], sh := (.cons (.arr 0) (.cons (.dat .bool) .nil)), obs := [(0, .rows 29 3 (.int .i64))], pins := [] }

noncomputable def D_im_NearGroups : FD where
  A := A_im_NearGroups
  ins := I_im_NearGroups
  lend := []
  R := (Bool) × (List (List (Int)))
  F := fun x => F_im_NearGroups x.1.1 x.1.2.1
  emb := fun r => ([.arr 0, .dat .bool r.1], [(0, .rows 29 3 (.int .i64) r.2 none)])

noncomputable def E_im_NearGroups : Env := envOf [(72, D_im_IsGround), (73, D_im_between), (74, D_slices_IndexFunc_SSint_Sint), (75, D_im_NearGroups_1)]

noncomputable def Z_im_NearGroups : Nat → Nat → List Nat := fun r i => match look [(3, [(0, [1000000])])] r with
  | some l => (look l i).getD []
  | none => []

noncomputable def O_im_NearGroups : List (Nat × LD) := [(0, DL_im_NearGroups_0)]

noncomputable def C_im_NearGroups : Code := (f18.body).getD .skip

/-! ### 38 loop.example/g01110/laws.eqIntS -/

noncomputable def S_lw_eqIntS_0 (k : (List (Int)) × (List (Int))) (v : Int) : Tr ((Int) ⊕ ((Unit) ⊕ (Unit))) :=
  .t (decide (v < ((List.length k.1 : Nat) : Int)))
    (.g (inR v (List.length k.1)) <|
      .g (inR v (List.length k.2)) <|
      .t ((List.getD k.1 (Int.toNat v) (0 : Int)) != (List.getD k.2 (Int.toNat v) (0 : Int)))
        (.l (.inr (.inr ())))
        (.l (.inl (IntKind.wrap .i64 (v + (1 : Int))))))
    (.l (.inr (.inl ())))

noncomputable def L_lw_eqIntS_0 (k : (List (Int)) × (List (Int))) (v : Int) : Option ((Unit) ⊕ (Unit)) := iter (fun v => (S_lw_eqIntS_0 k v).ev) v

noncomputable def DL_lw_eqIntS_0 : LD where
  head := { acts := [], S := { slots := [0, 1, 5], sh := (.cons (.dat (.slice (.int .i64))) (.cons (.dat (.slice (.int .i64))) (.cons (.dat (.int .i64)) .nil))), obs := [] } }
  exits := [(0, { acts := [], S := { slots := [], sh := .nil, obs := [] } })]
  rets := { acts := [], S := { slots := [4], sh := (.cons (.dat .bool) .nil), obs := [] } }
  K := (List (Int)) × (List (Int))
  V := Int
  R := (Unit) ⊕ (Unit)
  join := fun k v => ((k.1, (k.2, (v, ()))), ())
  sk := fun t => (t.1.1, t.1.2.1)
  sv := fun t => t.1.2.2.1
  step := S_lw_eqIntS_0
  leaf := fun _ r => .s (Unit) (Unit) r (fun _ => .l (.exit 0 (mkSt ({ slots := [], sh := .nil, obs := [] }) ((), ())))) (fun _ => .l (.ret (mkSt ({ slots := [4], sh := (.cons (.dat .bool) .nil), obs := [] }) ((false, ()), ()))))

noncomputable def T_lw_eqIntS (a1_ : List (Int)) (a2_ : List (Int)) : Tr (Bool) :=
  .t (((List.length a1_ : Nat) : Int) != ((List.length a2_ : Nat) : Int))
    (.l false)
    (.c ((Unit) ⊕ (Unit)) (L_lw_eqIntS_0 (a1_, a2_) (0 : Int)) fun r5_ =>
      .s (Unit) (Unit) r5_
        (fun _ => .l true)
        (fun _ => .l false))

noncomputable def F_lw_eqIntS (a1_ : List (Int)) (a2_ : List (Int)) : Option (Bool) := (T_lw_eqIntS a1_ a2_).ev

noncomputable def A_lw_eqIntS : Sh := (.cons (.dat (.slice (.int .i64))) (.cons (.dat (.slice (.int .i64))) .nil))

noncomputable def I_lw_eqIntS : List (Nat × OSh) := []

noncomputable def K_lw_eqIntS : RetK := { acts := [], res := [.tmp 4], sh := (.cons (.dat .bool) .nil), obs := [], pins := [] }

noncomputable def D_lw_eqIntS : FD where
  A := A_lw_eqIntS
  ins := I_lw_eqIntS
  lend := []
  R := Bool
  F := fun x => F_lw_eqIntS x.1.1 x.1.2.1
  emb := fun r => ([.dat .bool r], [])

noncomputable def E_lw_eqIntS : Env := envOf []

noncomputable def Z_lw_eqIntS : Nat → Nat → List Nat := fun _ _ => []

noncomputable def O_lw_eqIntS : List (Nat × LD) := [(0, DL_lw_eqIntS_0)]

noncomputable def C_lw_eqIntS : Code := (f38.body).getD .skip

/-! ### 19 loop.example/g01110/laws.eqIntSS -/

noncomputable def S_lw_eqIntSS_0 (k : (List (List (Int))) × (List (List (Int)))) (v : Int) : Tr ((Int) ⊕ ((Unit) ⊕ (Unit))) :=
  .t (decide (v < ((List.length k.1 : Nat) : Int)))
    (.g (inR v (List.length k.1)) <|
      .g (inR v (List.length k.2)) <|
      .c (Bool) (F_lw_eqIntS (List.getD k.1 (Int.toNat v) ([] : List (Int))) (List.getD k.2 (Int.toNat v) ([] : List (Int)))) fun r4_ =>
      .t (!r4_)
        (.l (.inr (.inr ())))
        (.l (.inl (IntKind.wrap .i64 (v + (1 : Int))))))
    (.l (.inr (.inl ())))

noncomputable def L_lw_eqIntSS_0 (k : (List (List (Int))) × (List (List (Int)))) (v : Int) : Option ((Unit) ⊕ (Unit)) := iter (fun v => (S_lw_eqIntSS_0 k v).ev) v

noncomputable def DL_lw_eqIntSS_0 : LD where
  head := { acts := [], S := { slots := [0, 1, 5], sh := (.cons (.dat (.slice (.slice (.int .i64)))) (.cons (.dat (.slice (.slice (.int .i64)))) (.cons (.dat (.int .i64)) .nil))), obs := [] } }
  exits := [(0, { acts := [], S := { slots := [], sh := .nil, obs := [] } })]
  rets := { acts := [], S := { slots := [4], sh := (.cons (.dat .bool) .nil), obs := [] } }
  K := (List (List (Int))) × (List (List (Int)))
  V := Int
  R := (Unit) ⊕ (Unit)
  join := fun k v => ((k.1, (k.2, (v, ()))), ())
  sk := fun t => (t.1.1, t.1.2.1)
  sv := fun t => t.1.2.2.1
  step := S_lw_eqIntSS_0
  leaf := fun _ r => .s (Unit) (Unit) r (fun _ => .l (.exit 0 (mkSt ({ slots := [], sh := .nil, obs := [] }) ((), ())))) (fun _ => .l (.ret (mkSt ({ slots := [4], sh := (.cons (.dat .bool) .nil), obs := [] }) ((false, ()), ()))))

noncomputable def T_lw_eqIntSS (a1_ : List (List (Int))) (a2_ : List (List (Int))) : Tr (Bool) :=
  .t (((List.length a1_ : Nat) : Int) != ((List.length a2_ : Nat) : Int))
    (.l false)
    (.c ((Unit) ⊕ (Unit)) (L_lw_eqIntSS_0 (a1_, a2_) (0 : Int)) fun r6_ =>
      .s (Unit) (Unit) r6_
        (fun _ => .l true)
        (fun _ => .l false))

noncomputable def F_lw_eqIntSS (a1_ : List (List (Int))) (a2_ : List (List (Int))) : Option (Bool) := (T_lw_eqIntSS a1_ a2_).ev

noncomputable def A_lw_eqIntSS : Sh := (.cons (.dat (.slice (.slice (.int .i64)))) (.cons (.dat (.slice (.slice (.int .i64)))) .nil))

noncomputable def I_lw_eqIntSS : List (Nat × OSh) := []

noncomputable def K_lw_eqIntSS : RetK := { acts := [], res := [.tmp 4], sh := (.cons (.dat .bool) .nil), obs := [], pins := [] }

noncomputable def D_lw_eqIntSS : FD where
  A := A_lw_eqIntSS
  ins := I_lw_eqIntSS
  lend := []
  R := Bool
  F := fun x => F_lw_eqIntSS x.1.1 x.1.2.1
  emb := fun r => ([.dat .bool r], [])

noncomputable def E_lw_eqIntSS : Env := envOf [(38, D_lw_eqIntS)]

noncomputable def Z_lw_eqIntSS : Nat → Nat → List Nat := fun _ _ => []

noncomputable def O_lw_eqIntSS : List (Nat × LD) := [(0, DL_lw_eqIntSS_0)]

noncomputable def C_lw_eqIntSS : Code := (f19.body).getD .skip

/-! ### 46 loop.example/g01110/laws.markIntS -/

noncomputable def S_lw_markIntS_0 (_k : Unit) (v : (Int) × ((Int) × (List (Int)))) : Tr (((Int) × ((Int) × (List (Int)))) ⊕ ((Int) × (List (Int)))) :=
  .t (decide (v.2.1 < ((List.length v.2.2 : Nat) : Int)))
    (.g (inR v.2.1 (List.length v.2.2)) <|
      .g (decide ((Int.toNat v.2.1) < List.length v.2.2)) <|
      .l (.inl ((IntKind.wrap .i64 (v.1 + (1 : Int))), ((IntKind.wrap .i64 (v.2.1 + (1 : Int))), (List.set v.2.2 (Int.toNat v.2.1) v.1)))))
    (.l (.inr (v.1, v.2.2)))

noncomputable def L_lw_markIntS_0 (k : Unit) (v : (Int) × ((Int) × (List (Int)))) : Option ((Int) × (List (Int))) := iter (fun v => (S_lw_markIntS_0 k v).ev) v

noncomputable def DL_lw_markIntS_0 : LD where
  head := { acts := [], S := { slots := [0, 1, 5], sh := (.cons (.arr 64) (.cons (.dat (.int .i64)) (.cons (.dat (.int .i64)) .nil))), obs := [(64, .arr 3 (.int .i64))] } }
  exits := [(0, { acts := [], S := { slots := [0, 1], sh := (.cons (.arr 64) (.cons (.dat (.int .i64)) .nil)), obs := [(64, .arr 3 (.int .i64))] } })]
  rets := { acts := [], S := { slots := [], sh := .nil, obs := [] } }
  K := Unit
  V := (Int) × ((Int) × (List (Int)))
  R := (Int) × (List (Int))
  join := fun _ v => (((), (v.1, (v.2.1, ()))), (v.2.2, ()))
  sk := fun _ => ()
  sv := fun t => (t.1.2.1, (t.1.2.2.1, t.2.1))
  step := S_lw_markIntS_0
  leaf := fun _ r => .l (.exit 0 (mkSt ({ slots := [0, 1], sh := (.cons (.arr 64) (.cons (.dat (.int .i64)) .nil)), obs := [(64, .arr 3 (.int .i64))] }) (((), (r.1, ())), (r.2, ()))))

noncomputable def T_lw_markIntS (a2_ : Int) (a1_ : List (Int)) : Tr ((Int) × (List (Int))) :=
  .c ((Int) × (List (Int))) (L_lw_markIntS_0 () (a2_, ((0 : Int), a1_))) fun r6_ =>
  .l (r6_.1, r6_.2)

noncomputable def F_lw_markIntS (a2_ : Int) (a1_ : List (Int)) : Option ((Int) × (List (Int))) := (T_lw_markIntS a2_ a1_).ev

noncomputable def A_lw_markIntS : Sh := (.cons (.arr 64) (.cons (.dat (.int .i64)) .nil))

noncomputable def I_lw_markIntS : List (Nat × OSh) := [(64, .arr 3 (.int .i64))]

noncomputable def K_lw_markIntS : RetK := { acts := [], res := [.tmp 4], sh := (.cons (.dat (.int .i64)) .nil), obs := [(64, .arr 3 (.int .i64))], pins := [(0, 0, 64)] }

noncomputable def D_lw_markIntS : FD where
  A := A_lw_markIntS
  ins := I_lw_markIntS
  lend := [.arg 0]
  R := (Int) × (List (Int))
  F := fun x => F_lw_markIntS x.1.2.1 x.2.1
  emb := fun r => ([.dat (.int .i64) r.1], [(64, .arr 3 (.int .i64) r.2)])

noncomputable def E_lw_markIntS : Env := envOf []

noncomputable def Z_lw_markIntS : Nat → Nat → List Nat := fun _ _ => []

noncomputable def O_lw_markIntS : List (Nat × LD) := [(0, DL_lw_markIntS_0)]

noncomputable def C_lw_markIntS : Code := (f46.body).getD .skip

/-! ### 20 loop.example/g01110/laws.markIntSS -/

noncomputable def S_lw_markIntSS_0 (_k : Unit) (v : (Int) × ((Int) × (List (List (Int))))) : Tr (((Int) × ((Int) × (List (List (Int))))) ⊕ ((Int) × (List (List (Int))))) :=
  .t (decide (v.2.1 < ((List.length v.2.2 : Nat) : Int)))
    (.g (inR v.2.1 (List.length v.2.2)) <|
      .g (decide ((Int.toNat v.2.1) < List.length v.2.2)) <|
      .c ((Int) × (List (Int))) (F_lw_markIntS v.1 (List.getD v.2.2 (Int.toNat v.2.1) ([] : List (Int)))) fun r4_ =>
      .l (.inl (r4_.1, ((IntKind.wrap .i64 (v.2.1 + (1 : Int))), (List.set v.2.2 (Int.toNat v.2.1) r4_.2)))))
    (.l (.inr (v.1, v.2.2)))

noncomputable def L_lw_markIntSS_0 (k : Unit) (v : (Int) × ((Int) × (List (List (Int))))) : Option ((Int) × (List (List (Int)))) := iter (fun v => (S_lw_markIntSS_0 k v).ev) v

noncomputable def DL_lw_markIntSS_0 : LD where
  head := { acts := [.fz 500015], S := { slots := [0, 1, 5], sh := (.cons (.arr 64) (.cons (.dat (.int .i64)) (.cons (.dat (.int .i64)) .nil))), obs := [(64, .rows 29 3 (.int .i64))] } }
  exits := [(0, { acts := [], S := { slots := [0, 1], sh := (.cons (.arr 64) (.cons (.dat (.int .i64)) .nil)), obs := [(64, .rows 29 3 (.int .i64))] } })]
  rets := { acts := [], S := { slots := [], sh := .nil, obs := [] } }
  K := Unit
  V := (Int) × ((Int) × (List (List (Int))))
  R := (Int) × (List (List (Int)))
  join := fun _ v => (((), (v.1, (v.2.1, ()))), (v.2.2, ()))
  sk := fun _ => ()
  sv := fun t => (t.1.2.1, (t.1.2.2.1, t.2.1))
  step := S_lw_markIntSS_0
  leaf := fun _ r => .l (.exit 0 (mkSt ({ slots := [0, 1], sh := (.cons (.arr 64) (.cons (.dat (.int .i64)) .nil)), obs := [(64, .rows 29 3 (.int .i64))] }) (((), (r.1, ())), (r.2, ()))))

noncomputable def T_lw_markIntSS (a2_ : Int) (a1_ : List (List (Int))) : Tr ((Int) × (List (List (Int)))) :=
  .c ((Int) × (List (List (Int)))) (L_lw_markIntSS_0 () (a2_, ((0 : Int), a1_))) fun r7_ =>
  .l (r7_.1, r7_.2)

noncomputable def F_lw_markIntSS (a2_ : Int) (a1_ : List (List (Int))) : Option ((Int) × (List (List (Int)))) := (T_lw_markIntSS a2_ a1_).ev

noncomputable def A_lw_markIntSS : Sh := (.cons (.arr 64) (.cons (.dat (.int .i64)) .nil))

noncomputable def I_lw_markIntSS : List (Nat × OSh) := [(64, .rows 29 3 (.int .i64))]

noncomputable def K_lw_markIntSS : RetK := { acts := [], res := [.tmp 4], sh := (.cons (.dat (.int .i64)) .nil), obs := [(64, .rows 29 3 (.int .i64))], pins := [(0, 0, 64)] }

noncomputable def D_lw_markIntSS : FD where
  A := A_lw_markIntSS
  ins := I_lw_markIntSS
  lend := [.arg 0]
  R := (Int) × (List (List (Int)))
  F := fun x => F_lw_markIntSS x.1.2.1 x.2.1
  emb := fun r => ([.dat (.int .i64) r.1], [(64, .rows 29 3 (.int .i64) r.2 none)])

noncomputable def E_lw_markIntSS : Env := envOf [(46, D_lw_markIntS)]

noncomputable def Z_lw_markIntSS : Nat → Nat → List Nat := fun r i => match look [(4, [(5, [2000015])])] r with
  | some l => (look l i).getD []
  | none => []

noncomputable def O_lw_markIntSS : List (Nat × LD) := [(0, DL_lw_markIntSS_0)]

noncomputable def C_lw_markIntSS : Code := (f20.body).getD .skip

/-! ### 47 loop.example/g01110/laws.heldIntS -/

noncomputable def S_lw_heldIntS_0 (k : List (Int)) (v : (Int) × (Int)) : Tr (((Int) × (Int)) ⊕ ((Int) ⊕ (Unit))) :=
  .t (decide (v.2 < ((List.length k : Nat) : Int)))
    (.g (inR v.2 (List.length k)) <|
      .t ((List.getD k (Int.toNat v.2) (0 : Int)) != v.1)
        (.l (.inr (.inr ())))
        (.l (.inl ((IntKind.wrap .i64 (v.1 + (1 : Int))), (IntKind.wrap .i64 (v.2 + (1 : Int)))))))
    (.l (.inr (.inl v.1)))

noncomputable def L_lw_heldIntS_0 (k : List (Int)) (v : (Int) × (Int)) : Option ((Int) ⊕ (Unit)) := iter (fun v => (S_lw_heldIntS_0 k v).ev) v

noncomputable def DL_lw_heldIntS_0 : LD where
  head := { acts := [], S := { slots := [0, 1, 5], sh := (.cons (.dat (.slice (.int .i64))) (.cons (.dat (.int .i64)) (.cons (.dat (.int .i64)) .nil))), obs := [] } }
  exits := [(0, { acts := [], S := { slots := [1], sh := (.cons (.dat (.int .i64)) .nil), obs := [] } })]
  rets := { acts := [], S := { slots := [4], sh := (.cons (.dat (.int .i64)) .nil), obs := [] } }
  K := List (Int)
  V := (Int) × (Int)
  R := (Int) ⊕ (Unit)
  join := fun k v => ((k, (v.1, (v.2, ()))), ())
  sk := fun t => t.1.1
  sv := fun t => (t.1.2.1, t.1.2.2.1)
  step := S_lw_heldIntS_0
  leaf := fun _ r => .s (Int) (Unit) r (fun a => .l (.exit 0 (mkSt ({ slots := [1], sh := (.cons (.dat (.int .i64)) .nil), obs := [] }) ((a, ()), ())))) (fun _ => .l (.ret (mkSt ({ slots := [4], sh := (.cons (.dat (.int .i64)) .nil), obs := [] }) (((-1 : Int), ()), ()))))

noncomputable def T_lw_heldIntS (a1_ : List (Int)) (a2_ : Int) : Tr (Int) :=
  .c ((Int) ⊕ (Unit)) (L_lw_heldIntS_0 a1_ (a2_, (0 : Int))) fun r6_ =>
  .s (Int) (Unit) r6_
    (fun r7_ => .l r7_)
    (fun _ => .l (-1 : Int))

noncomputable def F_lw_heldIntS (a1_ : List (Int)) (a2_ : Int) : Option (Int) := (T_lw_heldIntS a1_ a2_).ev

noncomputable def A_lw_heldIntS : Sh := (.cons (.dat (.slice (.int .i64))) (.cons (.dat (.int .i64)) .nil))

noncomputable def I_lw_heldIntS : List (Nat × OSh) := []

noncomputable def K_lw_heldIntS : RetK := { acts := [], res := [.tmp 4], sh := (.cons (.dat (.int .i64)) .nil), obs := [], pins := [] }

noncomputable def D_lw_heldIntS : FD where
  A := A_lw_heldIntS
  ins := I_lw_heldIntS
  lend := []
  R := Int
  F := fun x => F_lw_heldIntS x.1.1 x.1.2.1
  emb := fun r => ([.dat (.int .i64) r], [])

noncomputable def E_lw_heldIntS : Env := envOf []

noncomputable def Z_lw_heldIntS : Nat → Nat → List Nat := fun _ _ => []

noncomputable def O_lw_heldIntS : List (Nat × LD) := [(0, DL_lw_heldIntS_0)]

noncomputable def C_lw_heldIntS : Code := (f47.body).getD .skip

/-! ### 21 loop.example/g01110/laws.heldIntSS -/

noncomputable def S_lw_heldIntSS_0 (k : List (List (Int))) (v : (Int) × (Int)) : Tr (((Int) × (Int)) ⊕ ((Int) ⊕ (Unit))) :=
  .t (decide (v.2 < ((List.length k : Nat) : Int)))
    (.g (inR v.2 (List.length k)) <|
      .c (Int) (F_lw_heldIntS (List.getD k (Int.toNat v.2) ([] : List (Int))) v.1) fun r4_ =>
      .t (decide (r4_ < (0 : Int)))
        (.l (.inr (.inr ())))
        (.l (.inl (r4_, (IntKind.wrap .i64 (v.2 + (1 : Int)))))))
    (.l (.inr (.inl v.1)))

noncomputable def L_lw_heldIntSS_0 (k : List (List (Int))) (v : (Int) × (Int)) : Option ((Int) ⊕ (Unit)) := iter (fun v => (S_lw_heldIntSS_0 k v).ev) v

noncomputable def DL_lw_heldIntSS_0 : LD where
  head := { acts := [], S := { slots := [0, 1, 5], sh := (.cons (.dat (.slice (.slice (.int .i64)))) (.cons (.dat (.int .i64)) (.cons (.dat (.int .i64)) .nil))), obs := [] } }
  exits := [(0, { acts := [], S := { slots := [1], sh := (.cons (.dat (.int .i64)) .nil), obs := [] } })]
  rets := { acts := [], S := { slots := [4], sh := (.cons (.dat (.int .i64)) .nil), obs := [] } }
  K := List (List (Int))
  V := (Int) × (Int)
  R := (Int) ⊕ (Unit)
  join := fun k v => ((k, (v.1, (v.2, ()))), ())
  sk := fun t => t.1.1
  sv := fun t => (t.1.2.1, t.1.2.2.1)
  step := S_lw_heldIntSS_0
  leaf := fun _ r => .s (Int) (Unit) r (fun a => .l (.exit 0 (mkSt ({ slots := [1], sh := (.cons (.dat (.int .i64)) .nil), obs := [] }) ((a, ()), ())))) (fun _ => .l (.ret (mkSt ({ slots := [4], sh := (.cons (.dat (.int .i64)) .nil), obs := [] }) (((-1 : Int), ()), ()))))

noncomputable def T_lw_heldIntSS (a1_ : List (List (Int))) (a2_ : Int) : Tr (Int) :=
  .c ((Int) ⊕ (Unit)) (L_lw_heldIntSS_0 a1_ (a2_, (0 : Int))) fun r7_ =>
  .s (Int) (Unit) r7_
    (fun r8_ => .l r8_)
    (fun _ => .l (-1 : Int))

noncomputable def F_lw_heldIntSS (a1_ : List (List (Int))) (a2_ : Int) : Option (Int) := (T_lw_heldIntSS a1_ a2_).ev

noncomputable def A_lw_heldIntSS : Sh := (.cons (.dat (.slice (.slice (.int .i64)))) (.cons (.dat (.int .i64)) .nil))

noncomputable def I_lw_heldIntSS : List (Nat × OSh) := []

noncomputable def K_lw_heldIntSS : RetK := { acts := [], res := [.tmp 4], sh := (.cons (.dat (.int .i64)) .nil), obs := [], pins := [] }

noncomputable def D_lw_heldIntSS : FD where
  A := A_lw_heldIntSS
  ins := I_lw_heldIntSS
  lend := []
  R := Int
  F := fun x => F_lw_heldIntSS x.1.1 x.1.2.1
  emb := fun r => ([.dat (.int .i64) r], [])

noncomputable def E_lw_heldIntSS : Env := envOf [(47, D_lw_heldIntS)]

noncomputable def Z_lw_heldIntSS : Nat → Nat → List Nat := fun _ _ => []

noncomputable def O_lw_heldIntSS : List (Nat × LD) := [(0, DL_lw_heldIntSS_0)]

noncomputable def C_lw_heldIntSS : Code := (f21.body).getD .skip

/-! ### 3 loop.example/g01110/laws.FnExactNearGroups -/

noncomputable def T_lw_FnExactNearGroups (a1_ : List (List (Int))) (a2_ : Int) : Tr (Bool) :=
  .c (Int) (F_lw_szIntSS a1_ (1048576 : Int)) fun r1_ =>
  .t (decide (r1_ < (0 : Int)))
    (.l true)
    (.c (List (List (Int))) (F_lw_toIntSS a1_) fun r2_ =>
      .c ((Bool) × (List (List (Int)))) (F_sp_NearGroups r2_ a2_) fun r3_ =>
      .c (List (List (Int))) (F_lw_toIntSS a1_) fun r4_ =>
      .c ((Bool) × (List (List (Int)))) (F_im_NearGroups r4_ a2_) fun r5_ =>
      .c (Bool) (F_lw_eqIntSS r5_.2 r3_.2) fun r6_ =>
      .t (!r6_)
        (.l false)
        (.t (!(r5_.1 == r3_.1))
            (.l false)
            (.c (List (List (Int))) (F_lw_toIntSS a1_) fun r7_ =>
              .c (Bool) (F_lw_eqIntSS r4_ r7_) fun r8_ =>
              .t (!r8_)
                (.l false)
                (.c ((Int) × (List (List (Int)))) (F_lw_markIntSS (1 : Int) r4_) fun r9_ =>
                  .t (decide (r9_.1 < (0 : Int)))
                    (.l false)
                    (.c (Bool) (F_lw_eqIntSS r5_.2 r3_.2) fun r10_ =>
                      .t (!r10_)
                        (.l false)
                        (.t (!(r5_.1 == r3_.1))
                            (.l false)
                            (.c ((Int) × (List (List (Int)))) (F_lw_markIntSS (1 : Int) r5_.2) fun r11_ =>
                              .c (Int) (F_lw_heldIntSS r11_.2 (1 : Int)) fun r12_ =>
                              .t (decide (r12_ < (0 : Int)))
                                (.l false)
                                (.t (r12_ != r11_.1)
                                    (.l false)
                                    (.c (List (List (Int))) (F_lw_toIntSS a1_) fun r13_ =>
                                      .c ((Bool) × (List (List (Int)))) (F_im_NearGroups r13_ a2_) fun r14_ =>
                                      .c (Bool) (F_lw_eqIntSS r14_.2 r3_.2) fun r15_ =>
                                      .t (!r15_)
                                        (.l false)
                                        (.t (!(r14_.1 == r3_.1))
                                            (.l false)
                                            (.c (Int) (F_lw_heldIntSS r11_.2 (1 : Int)) fun r16_ =>
                                              .t (decide (r16_ < (0 : Int)))
                                                (.l false)
                                                (.t (r16_ != r11_.1)
                                                    (.l false)
                                                    (.l true)))))))))))))

noncomputable def F_lw_FnExactNearGroups (a1_ : List (List (Int))) (a2_ : Int) : Option (Bool) := (T_lw_FnExactNearGroups a1_ a2_).ev

noncomputable def A_lw_FnExactNearGroups : Sh := (.cons (.dat (.slice (.slice (.int .i64)))) (.cons (.dat (.int .i64)) .nil))

noncomputable def I_lw_FnExactNearGroups : List (Nat × OSh) := []

noncomputable def K_lw_FnExactNearGroups : RetK := { acts := [], res := [.tmp 4], sh := (.cons (.dat .bool) .nil), obs := [], pins := [] }

noncomputable def D_lw_FnExactNearGroups : FD where
  A := A_lw_FnExactNearGroups
  ins := I_lw_FnExactNearGroups
  lend := []
  R := Bool
  F := fun x => F_lw_FnExactNearGroups x.1.1 x.1.2.1
  emb := fun r => ([.dat .bool r], [])

noncomputable def E_lw_FnExactNearGroups : Env := envOf [(15, D_lw_szIntSS), (17, D_lw_toIntSS), (16, D_sp_NearGroups), (18, D_im_NearGroups), (19, D_lw_eqIntSS), (20, D_lw_markIntSS), (21, D_lw_heldIntSS)]

noncomputable def Z_lw_FnExactNearGroups : Nat → Nat → List Nat := fun _ _ => []

noncomputable def O_lw_FnExactNearGroups : List (Nat × LD) := []

noncomputable def C_lw_FnExactNearGroups : Code := (f3.body).getD .skip

/-! ### 22 loop.example/g01110/laws.szField -/

noncomputable def T_lw_szField (a1_ : List (Int)) (a2_ : List (List (Int))) (a3_ : Int) : Tr (Int) :=
  .c (Int) (F_lw_szIntS a1_ a3_) fun r1_ =>
  .t (decide (r1_ < (0 : Int)))
    (.l (-1 : Int))
    (.c (Int) (F_lw_szIntSS a2_ r1_) fun r2_ =>
      .t (decide (r2_ < (0 : Int)))
        (.l (-1 : Int))
        (.l r2_))

noncomputable def F_lw_szField (a1_ : List (Int)) (a2_ : List (List (Int))) (a3_ : Int) : Option (Int) := (T_lw_szField a1_ a2_ a3_).ev

noncomputable def A_lw_szField : Sh := (.cons (.agg (.cons (.dat (.slice (.int .i64))) (.cons (.dat (.slice (.slice (.int .i64)))) .nil))) (.cons (.dat (.int .i64)) .nil))

noncomputable def I_lw_szField : List (Nat × OSh) := []

noncomputable def K_lw_szField : RetK := { acts := [], res := [.tmp 4], sh := (.cons (.dat (.int .i64)) .nil), obs := [], pins := [] }

noncomputable def D_lw_szField : FD where
  A := A_lw_szField
  ins := I_lw_szField
  lend := []
  R := Int
  F := fun x => F_lw_szField x.1.1.1 x.1.1.2.1 x.1.2.1
  emb := fun r => ([.dat (.int .i64) r], [])

noncomputable def E_lw_szField : Env := envOf [(69, D_lw_szIntS), (15, D_lw_szIntSS)]

noncomputable def Z_lw_szField : Nat → Nat → List Nat := fun _ _ => []

noncomputable def O_lw_szField : List (Nat × LD) := []

noncomputable def C_lw_szField : Code := (f22.body).getD .skip

/-! ### 24 loop.example/g01110/laws.toField -/

noncomputable def T_lw_toField (a1_ : List (Int)) (a2_ : List (List (Int))) : Tr ((List (Int)) × (List (List (Int)))) :=
  .c (List (Int)) (F_lw_toIntS a1_) fun r1_ =>
  .c (List (List (Int))) (F_lw_toIntSS a2_) fun r2_ =>
  .l (r1_, r2_)

noncomputable def F_lw_toField (a1_ : List (Int)) (a2_ : List (List (Int))) : Option ((List (Int)) × (List (List (Int)))) := (T_lw_toField a1_ a2_).ev

noncomputable def A_lw_toField : Sh := (.cons (.agg (.cons (.dat (.slice (.int .i64))) (.cons (.dat (.slice (.slice (.int .i64)))) .nil))) .nil)

noncomputable def I_lw_toField : List (Nat × OSh) := []

noncomputable def K_lw_toField : RetK := { acts := [.ren 384 4, .ren 640 5], res := [.cell 2 33], sh := (.cons (.agg (.cons (.arr 4) (.cons (.arr 5) .nil))) .nil), obs := [(4, .arr 3 (.int .i64)), (5, .rows 29 3 (.int .i64))], pins := [] }

noncomputable def D_lw_toField : FD where
  A := A_lw_toField
  ins := I_lw_toField
  lend := []
  R := (List (Int)) × (List (List (Int)))
  F := fun x => F_lw_toField x.1.1.1 x.1.1.2.1
  emb := fun r => ([.agg [.arr 4, .arr 5]], [(4, .arr 3 (.int .i64) r.1), (5, .rows 29 3 (.int .i64) r.2 none)])

noncomputable def E_lw_toField : Env := envOf [(36, D_lw_toIntS), (17, D_lw_toIntSS)]

noncomputable def Z_lw_toField : Nat → Nat → List Nat := fun _ _ => []

noncomputable def O_lw_toField : List (Nat × LD) := []

noncomputable def C_lw_toField : Code := (f24.body).getD .skip

/-! ### 138 loop.example/g01110/spec.l2Good -/

noncomputable def S_sp_l2Good_0 (k : (Int) × ((List (Int)) × (List (List (Int))))) (v : Int) : Tr ((Int) ⊕ ((Unit) ⊕ (Unit))) :=
  .t (decide (v < ((List.length k.2.2 : Nat) : Int)))
    (.g (inR v (List.length k.2.2)) <|
      .c (Bool) (F_sp_l2Row (List.getD k.2.2 (Int.toNat v) ([] : List (Int))) k.1 (99 : Int)) fun r5_ =>
      .t (!r5_)
        (.l (.inr (.inr ())))
        (.l (.inl (IntKind.wrap .i64 (v + (1 : Int))))))
    (.l (.inr (.inl ())))

noncomputable def L_sp_l2Good_0 (k : (Int) × ((List (Int)) × (List (List (Int))))) (v : Int) : Option ((Unit) ⊕ (Unit)) := iter (fun v => (S_sp_l2Good_0 k v).ev) v

noncomputable def DL_sp_l2Good_0 : LD where
  head := { acts := [], S := { slots := [1, 3, 4], sh := (.cons (.box 1 0) (.cons (.dat (.int .i64)) (.cons (.dat (.int .i64)) .nil))), obs := [(1, .cells (.cons (.dat (.slice (.int .i64))) (.cons (.dat (.slice (.slice (.int .i64)))) .nil)))] } }
  exits := [(0, { acts := [], S := { slots := [1, 3], sh := (.cons (.box 1 0) (.cons (.dat (.int .i64)) .nil)), obs := [(1, .cells (.cons (.dat (.slice (.int .i64))) (.cons (.dat (.slice (.slice (.int .i64)))) .nil)))] } })]
  rets := { acts := [], S := { slots := [2], sh := (.cons (.dat .bool) .nil), obs := [] } }
  K := (Int) × ((List (Int)) × (List (List (Int))))
  V := Int
  R := (Unit) ⊕ (Unit)
  join := fun k v => (((), (k.1, (v, ()))), ((k.2.1, (k.2.2, ())), ()))
  sk := fun t => (t.1.2.1, (t.2.1.1, t.2.1.2.1))
  sv := fun t => t.1.2.2.1
  step := S_sp_l2Good_0
  leaf := fun k r => .s (Unit) (Unit) r (fun _ => .l (.exit 0 (mkSt ({ slots := [1, 3], sh := (.cons (.box 1 0) (.cons (.dat (.int .i64)) .nil)), obs := [(1, .cells (.cons (.dat (.slice (.int .i64))) (.cons (.dat (.slice (.slice (.int .i64)))) .nil)))] }) (((), (k.1, ())), ((k.2.1, (k.2.2, ())), ()))))) (fun _ => .l (.ret (mkSt ({ slots := [2], sh := (.cons (.dat .bool) .nil), obs := [] }) ((false, ()), ()))))

noncomputable def T_sp_l2Good (a1_ : List (Int)) (a2_ : List (List (Int))) : Tr (Bool) :=
  .c ((Unit) ⊕ (Unit)) (L_sp_l2Good_0 (((List.length a1_ : Nat) : Int), (a1_, a2_)) (0 : Int)) fun r10_ =>
  .s (Unit) (Unit) r10_
    (fun _ => .c (Bool) (F_sp_l1In ((List.length a1_ : Nat) : Int) (1 : Int) (7 : Int)) fun r13_ =>
      .t r13_
        (.c (Bool) (F_sp_l2Row a1_ ((List.length a1_ : Nat) : Int) (99 : Int)) fun r14_ =>
          .t r14_
            (.l (decide (((List.length a2_ : Nat) : Int) ≤ (7 : Int))))
            (.l false))
        (.l false))
    (fun _ => .l false)

noncomputable def F_sp_l2Good (a1_ : List (Int)) (a2_ : List (List (Int))) : Option (Bool) := (T_sp_l2Good a1_ a2_).ev

noncomputable def A_sp_l2Good : Sh := (.cons (.agg (.cons (.dat (.slice (.int .i64))) (.cons (.dat (.slice (.slice (.int .i64)))) .nil))) .nil)

noncomputable def I_sp_l2Good : List (Nat × OSh) := []

noncomputable def K_sp_l2Good : RetK := { acts := [], res := [.tmp 2], sh := (.cons (.dat .bool) .nil), obs := [], pins := [] }

noncomputable def D_sp_l2Good : FD where
  A := A_sp_l2Good
  ins := I_sp_l2Good
  lend := []
  R := Bool
  F := fun x => F_sp_l2Good x.1.1.1 x.1.1.2.1
  emb := fun r => ([.dat .bool r], [])

noncomputable def E_sp_l2Good : Env := envOf [(118, D_sp_l2Row), (93, D_sp_l1In)]

noncomputable def Z_sp_l2Good : Nat → Nat → List Nat := fun _ _ => []

noncomputable def O_sp_l2Good : List (Nat × LD) := [(0, DL_sp_l2Good_0)]

noncomputable def C_sp_l2Good : Code := (f138.body).getD .skip

/-! ### 178 loop.example/g01110/spec.l1Rising -/

noncomputable def S_sp_l1Rising_0 (k : (List (Int)) × ((Int) × (Int))) (v : Int) : Tr ((Int) ⊕ ((Unit) ⊕ (Unit))) :=
  .t (decide (v < ((List.length k.1 : Nat) : Int)))
    (.g (inR v (List.length k.1)) <|
      .c (Bool) (F_sp_l1In (List.getD k.1 (Int.toNat v) (0 : Int)) k.2.1 k.2.2) fun r5_ =>
      .t (!r5_)
        (.l (.inr (.inr ())))
        (.t (decide ((0 : Int) < v))
            (.g (inR (IntKind.wrap .i64 (v - (1 : Int))) (List.length k.1)) <|
              .g (inR v (List.length k.1)) <|
              .t (decide ((List.getD k.1 (Int.toNat v) (0 : Int)) ≤ (List.getD k.1 (Int.toNat (IntKind.wrap .i64 (v - (1 : Int)))) (0 : Int))))
                (.l (.inr (.inr ())))
                (.l (.inl (IntKind.wrap .i64 (v + (1 : Int))))))
            (.l (.inl (IntKind.wrap .i64 (v + (1 : Int)))))))
    (.l (.inr (.inl ())))

noncomputable def L_sp_l1Rising_0 (k : (List (Int)) × ((Int) × (Int))) (v : Int) : Option ((Unit) ⊕ (Unit)) := iter (fun v => (S_sp_l1Rising_0 k v).ev) v

noncomputable def DL_sp_l1Rising_0 : LD where
  head := { acts := [], S := { slots := [0, 1, 2, 7], sh := (.cons (.dat (.slice (.int .i64))) (.cons (.dat (.int .i64)) (.cons (.dat (.int .i64)) (.cons (.dat (.int .i64)) .nil)))), obs := [] } }
  exits := [(0, { acts := [], S := { slots := [], sh := .nil, obs := [] } })]
  rets := { acts := [], S := { slots := [6], sh := (.cons (.dat .bool) .nil), obs := [] } }
  K := (List (Int)) × ((Int) × (Int))
  V := Int
  R := (Unit) ⊕ (Unit)
  join := fun k v => ((k.1, (k.2.1, (k.2.2, (v, ())))), ())
  sk := fun t => (t.1.1, (t.1.2.1, t.1.2.2.1))
  sv := fun t => t.1.2.2.2.1
  step := S_sp_l1Rising_0
  leaf := fun _ r => .s (Unit) (Unit) r (fun _ => .l (.exit 0 (mkSt ({ slots := [], sh := .nil, obs := [] }) ((), ())))) (fun _ => .l (.ret (mkSt ({ slots := [6], sh := (.cons (.dat .bool) .nil), obs := [] }) ((false, ()), ()))))

noncomputable def T_sp_l1Rising (a1_ : List (Int)) (a2_ : Int) (a3_ : Int) : Tr (Bool) :=
  .c ((Unit) ⊕ (Unit)) (L_sp_l1Rising_0 (a1_, (a2_, a3_)) (0 : Int)) fun r7_ =>
  .s (Unit) (Unit) r7_
    (fun _ => .l true)
    (fun _ => .l false)

noncomputable def F_sp_l1Rising (a1_ : List (Int)) (a2_ : Int) (a3_ : Int) : Option (Bool) := (T_sp_l1Rising a1_ a2_ a3_).ev

noncomputable def A_sp_l1Rising : Sh := (.cons (.dat (.slice (.int .i64))) (.cons (.dat (.int .i64)) (.cons (.dat (.int .i64)) .nil)))

noncomputable def I_sp_l1Rising : List (Nat × OSh) := []

noncomputable def K_sp_l1Rising : RetK := { acts := [], res := [.tmp 6], sh := (.cons (.dat .bool) .nil), obs := [], pins := [] }

noncomputable def D_sp_l1Rising : FD where
  A := A_sp_l1Rising
  ins := I_sp_l1Rising
  lend := []
  R := Bool
  F := fun x => F_sp_l1Rising x.1.1 x.1.2.1 x.1.2.2.1
  emb := fun r => ([.dat .bool r], [])

noncomputable def E_sp_l1Rising : Env := envOf [(93, D_sp_l1In)]

noncomputable def Z_sp_l1Rising : Nat → Nat → List Nat := fun _ _ => []

noncomputable def O_sp_l1Rising : List (Nat × LD) := [(0, DL_sp_l1Rising_0)]

noncomputable def C_sp_l1Rising : Code := (f178.body).getD .skip

/-! ### 139 loop.example/g01110/spec.l2Set -/

noncomputable def T_sp_l2Set (a1_ : List (Int)) (_a2_ : List (List (Int))) (a3_ : List (Int)) : Tr (Bool) :=
  .c (Bool) (F_sp_l1Rising a3_ (0 : Int) (IntKind.wrap .i64 (((List.length a1_ : Nat) : Int) - (1 : Int)))) fun r1_ =>
  .l r1_

noncomputable def F_sp_l2Set (a1_ : List (Int)) (a2_ : List (List (Int))) (a3_ : List (Int)) : Option (Bool) := (T_sp_l2Set a1_ a2_ a3_).ev

noncomputable def A_sp_l2Set : Sh := (.cons (.agg (.cons (.dat (.slice (.int .i64))) (.cons (.dat (.slice (.slice (.int .i64)))) .nil))) (.cons (.dat (.slice (.int .i64))) .nil))

noncomputable def I_sp_l2Set : List (Nat × OSh) := []

noncomputable def K_sp_l2Set : RetK := { acts := [], res := [.tmp 4], sh := (.cons (.dat .bool) .nil), obs := [], pins := [] }

noncomputable def D_sp_l2Set : FD where
  A := A_sp_l2Set
  ins := I_sp_l2Set
  lend := []
  R := Bool
  F := fun x => F_sp_l2Set x.1.1.1 x.1.1.2.1 x.1.2.1
  emb := fun r => ([.dat .bool r], [])

noncomputable def E_sp_l2Set : Env := envOf [(178, D_sp_l1Rising)]

noncomputable def Z_sp_l2Set : Nat → Nat → List Nat := fun _ _ => []

noncomputable def O_sp_l2Set : List (Nat × LD) := []

noncomputable def C_sp_l2Set : Code := (f139.body).getD .skip

/-! ### 77 loop.example/g01110/spec.l12Good -/

noncomputable def T_sp_l12Good (a1_ : List (Int)) (a2_ : List (List (Int))) (a3_ : List (Int)) (a4_ : Int) : Tr (Bool) :=
  .c (Bool) (F_sp_l2Good a1_ a2_) fun r1_ =>
  .t r1_
    (.c (Bool) (F_sp_l2Set a1_ a2_ a3_) fun r2_ =>
      .t r2_
        (.c (Bool) (F_sp_l1In a4_ (0 : Int) (1000 : Int)) fun r3_ =>
          .l r3_)
        (.l false))
    (.l false)

noncomputable def F_sp_l12Good (a1_ : List (Int)) (a2_ : List (List (Int))) (a3_ : List (Int)) (a4_ : Int) : Option (Bool) := (T_sp_l12Good a1_ a2_ a3_ a4_).ev

noncomputable def A_sp_l12Good : Sh := (.cons (.agg (.cons (.dat (.slice (.int .i64))) (.cons (.dat (.slice (.slice (.int .i64)))) (.cons (.dat (.slice (.int .i64))) (.cons (.dat (.int .i64)) .nil))))) .nil)

noncomputable def I_sp_l12Good : List (Nat × OSh) := []

noncomputable def K_sp_l12Good : RetK := { acts := [], res := [.tmp 2], sh := (.cons (.dat .bool) .nil), obs := [], pins := [] }

noncomputable def D_sp_l12Good : FD where
  A := A_sp_l12Good
  ins := I_sp_l12Good
  lend := []
  R := Bool
  F := fun x => F_sp_l12Good x.1.1.1 x.1.1.2.1 x.1.1.2.2.1 x.1.1.2.2.2.1
  emb := fun r => ([.dat .bool r], [])

noncomputable def E_sp_l12Good : Env := envOf [(138, D_sp_l2Good), (139, D_sp_l2Set), (93, D_sp_l1In)]

noncomputable def Z_sp_l12Good : Nat → Nat → List Nat := fun _ _ => []

noncomputable def O_sp_l12Good : List (Nat × LD) := []

noncomputable def C_sp_l12Good : Code := (f77.body).getD .skip

/-! ### 140 loop.example/g01110/spec.l1Own -/

noncomputable def T_sp_l1Own (a1_ : List (Int)) : Tr (List (Int)) :=
  .g (decide ((List.length ([] : List (Int)) + List.length a1_) * 8 ≤ 140737488355328)) <|
  .l (([] : List (Int)) ++ a1_)

noncomputable def F_sp_l1Own (a1_ : List (Int)) : Option (List (Int)) := (T_sp_l1Own a1_).ev

noncomputable def A_sp_l1Own : Sh := (.cons (.dat (.slice (.int .i64))) .nil)

noncomputable def I_sp_l1Own : List (Nat × OSh) := []

noncomputable def K_sp_l1Own : RetK := { acts := [.ren 3 0], res := [.tmp 2], sh := (.cons (.arr 0) .nil), obs := [(0, .arr 3 (.int .i64))], pins := [] }

noncomputable def D_sp_l1Own : FD where
  A := A_sp_l1Own
  ins := I_sp_l1Own
  lend := []
  R := List (Int)
  F := fun x => F_sp_l1Own x.1.1
  emb := fun r => ([.arr 0], [(0, .arr 3 (.int .i64) r)])

noncomputable def E_sp_l1Own : Env := envOf []

noncomputable def Z_sp_l1Own : Nat → Nat → List Nat := fun _ _ => []

noncomputable def O_sp_l1Own : List (Nat × LD) := []

noncomputable def C_sp_l1Own : Code := (f140.body).getD .skip

/-! ### 78 loop.example/g01110/spec.l12Own -/

noncomputable def S_sp_l12Own_0 (k : (List (Int)) × ((List (List (Int))) × ((List (Int)) × ((Int) × ((List (Int)) × ((List (List (Int))) × ((List (Int)) × ((Int) × (List (Int)))))))))) (v : (Int) × (List (List (Int)))) : Tr (((Int) × (List (List (Int)))) ⊕ (List (List (Int)))) :=
  .t (decide (v.1 < ((List.length k.2.1 : Nat) : Int)))
    (.g (inR v.1 (List.length k.2.1)) <|
      .c (List (Int)) (F_sp_l1Own (List.getD k.2.1 (Int.toNat v.1) ([] : List (Int)))) fun r13_ =>
      .g (decide ((List.length v.2 + 1) * 24 ≤ 140737488355328)) <|
      .l (.inl ((IntKind.wrap .i64 (v.1 + (1 : Int))), (List.set (v.2 ++ [[]]) (List.length v.2) r13_))))
    (.l (.inr v.2))

noncomputable def L_sp_l12Own_0 (k : (List (Int)) × ((List (List (Int))) × ((List (Int)) × ((Int) × ((List (Int)) × ((List (List (Int))) × ((List (Int)) × ((Int) × (List (Int)))))))))) (v : (Int) × (List (List (Int)))) : Option (List (List (Int))) := iter (fun v => (S_sp_l12Own_0 k v).ev) v

noncomputable def DL_sp_l12Own_0 : LD where
  head := { acts := [], S := { slots := [1, 2, 3, 4], sh := (.cons (.box 1 0) (.cons (.box 2 0) (.cons (.box 3 0) (.cons (.dat (.int .i64)) .nil)))), obs := [(1, .cells (.cons (.dat (.slice (.int .i64))) (.cons (.dat (.slice (.slice (.int .i64)))) (.cons (.dat (.slice (.int .i64))) (.cons (.dat (.int .i64)) .nil))))), (2, .cells (.cons (.dat (.slice (.int .i64))) (.cons (.dat (.slice (.slice (.int .i64)))) (.cons (.dat (.slice (.int .i64))) (.cons (.dat (.int .i64)) .nil))))), (3, .cells (.cons (.arr 512) (.cons (.arr 9) .nil))), (512, .arr 3 (.int .i64)), (9, .rows 29 3 (.int .i64))] } }
  exits := [(0, { acts := [], S := { slots := [1, 2, 3], sh := (.cons (.box 1 0) (.cons (.box 2 0) (.cons (.box 3 0) .nil))), obs := [(1, .cells (.cons (.dat (.slice (.int .i64))) (.cons (.dat (.slice (.slice (.int .i64)))) (.cons (.dat (.slice (.int .i64))) (.cons (.dat (.int .i64)) .nil))))), (2, .cells (.cons (.dat (.slice (.int .i64))) (.cons (.dat (.slice (.slice (.int .i64)))) (.cons (.dat (.slice (.int .i64))) (.cons (.dat (.int .i64)) .nil))))), (3, .cells (.cons (.arr 512) (.cons (.arr 9) .nil))), (512, .arr 3 (.int .i64)), (9, .rows 29 3 (.int .i64))] } })]
  rets := { acts := [], S := { slots := [], sh := .nil, obs := [] } }
  K := (List (Int)) × ((List (List (Int))) × ((List (Int)) × ((Int) × ((List (Int)) × ((List (List (Int))) × ((List (Int)) × ((Int) × (List (Int)))))))))
  V := (Int) × (List (List (Int)))
  R := List (List (Int))
  join := fun k v => (((), ((), ((), (v.1, ())))), ((k.1, (k.2.1, (k.2.2.1, (k.2.2.2.1, ())))), ((k.2.2.2.2.1, (k.2.2.2.2.2.1, (k.2.2.2.2.2.2.1, (k.2.2.2.2.2.2.2.1, ())))), (((), ((), ())), (k.2.2.2.2.2.2.2.2, (v.2, ()))))))
  sk := fun t => (t.2.1.1, (t.2.1.2.1, (t.2.1.2.2.1, (t.2.1.2.2.2.1, (t.2.2.1.1, (t.2.2.1.2.1, (t.2.2.1.2.2.1, (t.2.2.1.2.2.2.1, t.2.2.2.2.1))))))))
  sv := fun t => (t.1.2.2.2.1, t.2.2.2.2.2.1)
  step := S_sp_l12Own_0
  leaf := fun k r => .l (.exit 0 (mkSt ({ slots := [1, 2, 3], sh := (.cons (.box 1 0) (.cons (.box 2 0) (.cons (.box 3 0) .nil))), obs := [(1, .cells (.cons (.dat (.slice (.int .i64))) (.cons (.dat (.slice (.slice (.int .i64)))) (.cons (.dat (.slice (.int .i64))) (.cons (.dat (.int .i64)) .nil))))), (2, .cells (.cons (.dat (.slice (.int .i64))) (.cons (.dat (.slice (.slice (.int .i64)))) (.cons (.dat (.slice (.int .i64))) (.cons (.dat (.int .i64)) .nil))))), (3, .cells (.cons (.arr 512) (.cons (.arr 9) .nil))), (512, .arr 3 (.int .i64)), (9, .rows 29 3 (.int .i64))] }) (((), ((), ((), ()))), ((k.1, (k.2.1, (k.2.2.1, (k.2.2.2.1, ())))), ((k.2.2.2.2.1, (k.2.2.2.2.2.1, (k.2.2.2.2.2.2.1, (k.2.2.2.2.2.2.2.1, ())))), (((), ((), ())), (k.2.2.2.2.2.2.2.2, (r, ()))))))))

noncomputable def T_sp_l12Own (a1_ : List (Int)) (a2_ : List (List (Int))) (a3_ : List (Int)) (a4_ : Int) : Tr ((Int) × ((List (Int)) × ((List (List (Int))) × (List (Int))))) :=
  .c (List (Int)) (F_sp_l1Own a1_) fun r1_ =>
  .c (List (List (Int))) (L_sp_l12Own_0 (a1_, (a2_, (a3_, (a4_, (([] : List (Int)), (([] : List (List (Int))), (([] : List (Int)), ((0 : Int), r1_)))))))) ((0 : Int), ([] : List (List (Int))))) fun r24_ =>
  .c (List (Int)) (F_sp_l1Own a3_) fun r25_ =>
  .l (a4_, (r1_, (r24_, r25_)))

noncomputable def F_sp_l12Own (a1_ : List (Int)) (a2_ : List (List (Int))) (a3_ : List (Int)) (a4_ : Int) : Option ((Int) × ((List (Int)) × ((List (List (Int))) × (List (Int))))) := (T_sp_l12Own a1_ a2_ a3_ a4_).ev

noncomputable def A_sp_l12Own : Sh := (.cons (.agg (.cons (.dat (.slice (.int .i64))) (.cons (.dat (.slice (.slice (.int .i64)))) (.cons (.dat (.slice (.int .i64))) (.cons (.dat (.int .i64)) .nil))))) .nil)

noncomputable def I_sp_l12Own : List (Nat × OSh) := []

noncomputable def K_sp_l12Own : RetK := { acts := [.ren 512 4, .ren 9 5, .ren 2176 6], res := [.cell 2 35], sh := (.cons (.agg (.cons (.arr 4) (.cons (.arr 5) (.cons (.arr 6) (.cons (.dat (.int .i64)) .nil))))) .nil), obs := [(4, .arr 3 (.int .i64)), (5, .rows 29 3 (.int .i64)), (6, .arr 3 (.int .i64))], pins := [] }

noncomputable def D_sp_l12Own : FD where
  A := A_sp_l12Own
  ins := I_sp_l12Own
  lend := []
  R := (Int) × ((List (Int)) × ((List (List (Int))) × (List (Int))))
  F := fun x => F_sp_l12Own x.1.1.1 x.1.1.2.1 x.1.1.2.2.1 x.1.1.2.2.2.1
  emb := fun r => ([.agg [.arr 4, .arr 5, .arr 6, .dat (.int .i64) r.1]], [(4, .arr 3 (.int .i64) r.2.1), (5, .rows 29 3 (.int .i64) r.2.2.1 none), (6, .arr 3 (.int .i64) r.2.2.2)])

noncomputable def E_sp_l12Own : Env := envOf [(140, D_sp_l1Own)]

noncomputable def Z_sp_l12Own : Nat → Nat → List Nat := fun r i => match look [(1, [(4, [1000000])])] r with
  | some l => (look l i).getD []
  | none => []

noncomputable def O_sp_l12Own : List (Nat × LD) := [(0, DL_sp_l12Own_0)]

noncomputable def C_sp_l12Own : Code := (f78.body).getD .skip

/-! ### 23 loop.example/g01110/spec.NewAtlas -/

noncomputable def T_sp_NewAtlas (a1_ : List (Int)) (a2_ : List (List (Int))) : Tr ((Int) × ((Bool) × ((List (Int)) × ((List (List (Int))) × (List (Int)))))) :=
  .c (Bool) (F_sp_l12Good a1_ a2_ ([] : List (Int)) (0 : Int)) fun r1_ =>
  .t (!r1_)
    (.l ((0 : Int), (false, (([] : List (Int)), (([] : List (List (Int))), ([] : List (Int)))))))
    (.c ((Int) × ((List (Int)) × ((List (List (Int))) × (List (Int))))) (F_sp_l12Own a1_ a2_ ([] : List (Int)) (0 : Int)) fun r2_ =>
      .l (r2_.1, (true, (r2_.2.1, (r2_.2.2.1, r2_.2.2.2)))))

noncomputable def F_sp_NewAtlas (a1_ : List (Int)) (a2_ : List (List (Int))) : Option ((Int) × ((Bool) × ((List (Int)) × ((List (List (Int))) × (List (Int)))))) := (T_sp_NewAtlas a1_ a2_).ev

noncomputable def A_sp_NewAtlas : Sh := (.cons (.agg (.cons (.dat (.slice (.int .i64))) (.cons (.dat (.slice (.slice (.int .i64)))) .nil))) .nil)

noncomputable def I_sp_NewAtlas : List (Nat × OSh) := []

noncomputable def K_sp_NewAtlas : RetK := { acts := [.ownB 2 0 3 3 (.int .i64), .ownRB 2 1 5 29 3 (.int .i64), .ownB 2 2 6 3 (.int .i64), .ren 772 3, .ren 773 5, .ren 774 6], res := [.cell 2 35, .tmp 3], sh := (.cons (.agg (.cons (.arr 3) (.cons (.arr 5) (.cons (.arr 6) (.cons (.dat (.int .i64)) .nil))))) (.cons (.dat .bool) .nil)), obs := [(3, .arr 3 (.int .i64)), (5, .rows 29 3 (.int .i64)), (6, .arr 3 (.int .i64))], pins := [] }

noncomputable def D_sp_NewAtlas : FD where
  A := A_sp_NewAtlas
  ins := I_sp_NewAtlas
  lend := []
  R := (Int) × ((Bool) × ((List (Int)) × ((List (List (Int))) × (List (Int)))))
  F := fun x => F_sp_NewAtlas x.1.1.1 x.1.1.2.1
  emb := fun r => ([.agg [.arr 3, .arr 5, .arr 6, .dat (.int .i64) r.1], .dat .bool r.2.1], [(3, .arr 3 (.int .i64) r.2.2.1), (5, .rows 29 3 (.int .i64) r.2.2.2.1 none), (6, .arr 3 (.int .i64) r.2.2.2.2)])

noncomputable def E_sp_NewAtlas : Env := envOf [(77, D_sp_l12Good), (78, D_sp_l12Own)]

noncomputable def Z_sp_NewAtlas : Nat → Nat → List Nat := fun _ _ => []

noncomputable def O_sp_NewAtlas : List (Nat × LD) := []

noncomputable def C_sp_NewAtlas : Code := (f23.body).getD .skip

/-! ### 141 slices.ContainsFunc[[][]int,[]int] -/

noncomputable def T_slices_ContainsFunc_SSint_Sint (a1_ : List (List (Int))) (a2_ : (HL [(.slice (.int .i64))] → Option (Bool))) : Tr (Bool) :=
  .c (Int) (F_slices_IndexFunc_SSint_Sint a1_ a2_) fun r1_ =>
  .l (decide ((0 : Int) ≤ r1_))

noncomputable def F_slices_ContainsFunc_SSint_Sint (a1_ : List (List (Int))) (a2_ : (HL [(.slice (.int .i64))] → Option (Bool))) : Option (Bool) := (T_slices_ContainsFunc_SSint_Sint a1_ a2_).ev

noncomputable def A_slices_ContainsFunc_SSint_Sint : Sh := (.cons (.dat (.slice (.slice (.int .i64)))) (.cons (.clo [(.slice (.int .i64))] .bool) .nil))

noncomputable def I_slices_ContainsFunc_SSint_Sint : List (Nat × OSh) := []

noncomputable def K_slices_ContainsFunc_SSint_Sint : RetK := { acts := [], res := [.tmp 4], sh := (.cons (.dat .bool) .nil), obs := [], pins := [] }

noncomputable def D_slices_ContainsFunc_SSint_Sint : FD where
  A := A_slices_ContainsFunc_SSint_Sint
  ins := I_slices_ContainsFunc_SSint_Sint
  lend := []
  R := Bool
  F := fun x => F_slices_ContainsFunc_SSint_Sint x.1.1 x.1.2.1
  emb := fun r => ([.dat .bool r], [])

noncomputable def E_slices_ContainsFunc_SSint_Sint : Env := envOf [(74, D_slices_IndexFunc_SSint_Sint)]

noncomputable def Z_slices_ContainsFunc_SSint_Sint : Nat → Nat → List Nat := fun _ _ => []

noncomputable def O_slices_ContainsFunc_SSint_Sint : List (Nat × LD) := []

noncomputable def C_slices_ContainsFunc_SSint_Sint : Code := (f141.body).getD .skip

/-! ### 142 loop.example/g01110/impl.IsField 1 -/

noncomputable def T_im_IsField_1 (a1_ : List (Int)) (a2_ : List (Int)) (_a3_ : List (List (Int))) : Tr (Bool) :=
  .t (((List.length a1_ : Nat) : Int) != ((List.length a2_ : Nat) : Int))
    (.l true)
    (.c (Bool) (F_im_areBetween a1_ (0 : Int) (99 : Int)) fun r1_ =>
      .l (!r1_))

noncomputable def F_im_IsField_1 (a1_ : List (Int)) (a2_ : List (Int)) (a3_ : List (List (Int))) : Option (Bool) := (T_im_IsField_1 a1_ a2_ a3_).ev

noncomputable def A_im_IsField_1 : Sh := (.cons (.dat (.slice (.int .i64))) (.cons (.ptr (.cons (.dat (.slice (.int .i64))) (.cons (.dat (.slice (.slice (.int .i64)))) .nil))) .nil))

noncomputable def I_im_IsField_1 : List (Nat × OSh) := []

noncomputable def K_im_IsField_1 : RetK := { acts := [], res := [.tmp 3], sh := (.cons (.dat .bool) .nil), obs := [], pins := [] }

noncomputable def D_im_IsField_1 : FD where
  A := A_im_IsField_1
  ins := I_im_IsField_1
  lend := []
  R := Bool
  F := fun x => F_im_IsField_1 x.1.1 x.1.2.1.1 x.1.2.1.2.1
  emb := fun r => ([.dat .bool r], [])

noncomputable def E_im_IsField_1 : Env := envOf [(136, D_im_areBetween)]

noncomputable def Z_im_IsField_1 : Nat → Nat → List Nat := fun _ _ => []

noncomputable def O_im_IsField_1 : List (Nat × LD) := []

noncomputable def C_im_IsField_1 : Code := (f142.body).getD .skip

/-! ### 79 loop.example/g01110/impl.IsField -/

noncomputable def T_im_IsField (a1_ : List (Int)) (a2_ : List (List (Int))) : Tr (Bool) :=
  .c (Bool) (F_im_between ((List.length a1_ : Nat) : Int) (1 : Int) (7 : Int)) fun r1_ =>
  .t r1_
    (.c (Bool) (F_im_areBetween a1_ (0 : Int) (99 : Int)) fun r2_ =>
      .t r2_
        (.t (decide (((List.length a2_ : Nat) : Int) ≤ (7 : Int)))
            (.c (Bool) (F_slices_ContainsFunc_SSint_Sint a2_ (fun h3_ => Option.bind (F_im_IsField_1 h3_.1 a1_ a2_) fun y4_ => some y4_)) fun r5_ =>
              .l (!r5_))
            (.l false))
        (.l false))
    (.l false)

noncomputable def F_im_IsField (a1_ : List (Int)) (a2_ : List (List (Int))) : Option (Bool) := (T_im_IsField a1_ a2_).ev

noncomputable def A_im_IsField : Sh := (.cons (.agg (.cons (.dat (.slice (.int .i64))) (.cons (.dat (.slice (.slice (.int .i64)))) .nil))) .nil)

noncomputable def I_im_IsField : List (Nat × OSh) := []

noncomputable def K_im_IsField : RetK := { acts := [], res := [.tmp 2], sh := (.cons (.dat .bool) .nil), obs := [], pins := [] }

noncomputable def D_im_IsField : FD where
  A := A_im_IsField
  ins := I_im_IsField
  lend := []
  R := Bool
  F := fun x => F_im_IsField x.1.1.1 x.1.1.2.1
  emb := fun r => ([.dat .bool r], [])

noncomputable def E_im_IsField : Env := envOf [(73, D_im_between), (136, D_im_areBetween), (141, D_slices_ContainsFunc_SSint_Sint), (142, D_im_IsField_1)]

noncomputable def Z_im_IsField : Nat → Nat → List Nat := fun _ _ => []

noncomputable def O_im_IsField : List (Nat × LD) := []

noncomputable def C_im_IsField : Code := (f79.body).getD .skip

/-! ### 101 slices.Clone[[]int,int] -/

noncomputable def F_slices_Clone_Sint_int (a1_ : List (Int)) : Option (List Int) := cloneF a1_

noncomputable def D_slices_Clone_Sint_int : FD := fdClone

/-! ### 143 loop.example/g01110/impl.copyLists -/

noncomputable def S_im_copyLists_0 (k : (List (List (Int))) × (Int)) (v : (Int) × (List (List (Int)))) : Tr (((Int) × (List (List (Int)))) ⊕ (List (List (Int)))) :=
  .t (decide (v.1 < k.2))
    (.g (inR v.1 (List.length k.1)) <|
      .c (List Int) (F_slices_Clone_Sint_int (List.getD k.1 (Int.toNat v.1) ([] : List (Int)))) fun r5_ =>
      .g (decide ((List.length v.2 + 1) * 24 ≤ 140737488355328)) <|
      .l (.inl ((IntKind.wrap .i64 (v.1 + (1 : Int))), (List.set (v.2 ++ [[]]) (List.length v.2) r5_))))
    (.l (.inr v.2))

noncomputable def L_im_copyLists_0 (k : (List (List (Int))) × (Int)) (v : (Int) × (List (List (Int)))) : Option (List (List (Int))) := iter (fun v => (S_im_copyLists_0 k v).ev) v

noncomputable def DL_im_copyLists_0 : LD where
  head := { acts := [], S := { slots := [3, 7, 8, 9], sh := (.cons (.arr 6) (.cons (.dat (.slice (.slice (.int .i64)))) (.cons (.dat (.int .i64)) (.cons (.dat (.int .i64)) .nil)))), obs := [(6, .rows 29 3 (.int .i64))] } }
  exits := [(0, { acts := [], S := { slots := [3], sh := (.cons (.arr 6) .nil), obs := [(6, .rows 29 3 (.int .i64))] } })]
  rets := { acts := [], S := { slots := [], sh := .nil, obs := [] } }
  K := (List (List (Int))) × (Int)
  V := (Int) × (List (List (Int)))
  R := List (List (Int))
  join := fun k v => (((), (k.1, (k.2, (v.1, ())))), (v.2, ()))
  sk := fun t => (t.1.2.1, t.1.2.2.1)
  sv := fun t => (t.1.2.2.2.1, t.2.1)
  step := S_im_copyLists_0
  leaf := fun _ r => .l (.exit 0 (mkSt ({ slots := [3], sh := (.cons (.arr 6) .nil), obs := [(6, .rows 29 3 (.int .i64))] }) (((), ()), (r, ()))))

noncomputable def T_im_copyLists (a1_ : List (List (Int))) : Tr (List (List (Int))) :=
  .c (List (List (Int))) (L_im_copyLists_0 (a1_, ((List.length a1_ : Nat) : Int)) ((0 : Int), ([] : List (List (Int))))) fun r7_ =>
  .l r7_

noncomputable def F_im_copyLists (a1_ : List (List (Int))) : Option (List (List (Int))) := (T_im_copyLists a1_).ev

noncomputable def A_im_copyLists : Sh := (.cons (.dat (.slice (.slice (.int .i64)))) .nil)

noncomputable def I_im_copyLists : List (Nat × OSh) := []

noncomputable def K_im_copyLists : RetK := { acts := [.ren 6 0], res := [.tmp 2], sh := (.cons (.arr 0) .nil), obs := [(0, .rows 29 3 (.int .i64))], pins := [] }

noncomputable def D_im_copyLists : FD where
  A := A_im_copyLists
  ins := I_im_copyLists
  lend := []
  R := List (List (Int))
  F := fun x => F_im_copyLists x.1.1
  emb := fun r => ([.arr 0], [(0, .rows 29 3 (.int .i64) r none)])

noncomputable def E_im_copyLists : Env := envOf [(101, D_slices_Clone_Sint_int)]

noncomputable def Z_im_copyLists : Nat → Nat → List Nat := fun r i => match look [(1, [(0, [1000000])])] r with
  | some l => (look l i).getD []
  | none => []

noncomputable def O_im_copyLists : List (Nat × LD) := [(0, DL_im_copyLists_0)]

noncomputable def C_im_copyLists : Code := (f143.body).getD .skip

/-! ### 80 (loop.example/g01110/impl.Atlas).copied -/

noncomputable def T_im_Atlas_copied (a1_ : List (Int)) (a2_ : List (List (Int))) (a3_ : List (Int)) (a4_ : Int) : Tr ((Int) × ((List (Int)) × ((List (List (Int))) × (List (Int))))) :=
  .c (List Int) (F_slices_Clone_Sint_int a1_) fun r1_ =>
  .c (List (List (Int))) (F_im_copyLists a2_) fun r2_ =>
  .c (List Int) (F_slices_Clone_Sint_int a3_) fun r3_ =>
  .l (a4_, (r1_, (r2_, r3_)))

noncomputable def F_im_Atlas_copied (a1_ : List (Int)) (a2_ : List (List (Int))) (a3_ : List (Int)) (a4_ : Int) : Option ((Int) × ((List (Int)) × ((List (List (Int))) × (List (Int))))) := (T_im_Atlas_copied a1_ a2_ a3_ a4_).ev

noncomputable def A_im_Atlas_copied : Sh := (.cons (.agg (.cons (.dat (.slice (.int .i64))) (.cons (.dat (.slice (.slice (.int .i64)))) (.cons (.dat (.slice (.int .i64))) (.cons (.dat (.int .i64)) .nil))))) .nil)

noncomputable def I_im_Atlas_copied : List (Nat × OSh) := []

noncomputable def K_im_Atlas_copied : RetK := { acts := [.ren 384 3, .ren 640 4, .ren 896 5], res := [.cell 2 35], sh := (.cons (.agg (.cons (.arr 3) (.cons (.arr 4) (.cons (.arr 5) (.cons (.dat (.int .i64)) .nil))))) .nil), obs := [(3, .arr 3 (.int .i64)), (4, .rows 29 3 (.int .i64)), (5, .arr 3 (.int .i64))], pins := [] }

noncomputable def D_im_Atlas_copied : FD where
  A := A_im_Atlas_copied
  ins := I_im_Atlas_copied
  lend := []
  R := (Int) × ((List (Int)) × ((List (List (Int))) × (List (Int))))
  F := fun x => F_im_Atlas_copied x.1.1.1 x.1.1.2.1 x.1.1.2.2.1 x.1.1.2.2.2.1
  emb := fun r => ([.agg [.arr 3, .arr 4, .arr 5, .dat (.int .i64) r.1]], [(3, .arr 3 (.int .i64) r.2.1), (4, .rows 29 3 (.int .i64) r.2.2.1 none), (5, .arr 3 (.int .i64) r.2.2.2)])

noncomputable def E_im_Atlas_copied : Env := envOf [(101, D_slices_Clone_Sint_int), (143, D_im_copyLists)]

noncomputable def Z_im_Atlas_copied : Nat → Nat → List Nat := fun _ _ => []

noncomputable def O_im_Atlas_copied : List (Nat × LD) := []

noncomputable def C_im_Atlas_copied : Code := (f80.body).getD .skip

/-! ### 25 loop.example/g01110/impl.NewAtlas -/

noncomputable def T_im_NewAtlas (a1_ : List (Int)) (a2_ : List (List (Int))) : Tr ((Int) × ((Bool) × ((List (Int)) × ((List (List (Int))) × (List (Int)))))) :=
  .c (Bool) (F_im_IsField a1_ a2_) fun r1_ =>
  .t (!r1_)
    (.l ((0 : Int), (false, (([] : List (Int)), (([] : List (List (Int))), ([] : List (Int)))))))
    (.c ((Int) × ((List (Int)) × ((List (List (Int))) × (List (Int))))) (F_im_Atlas_copied a1_ a2_ ([] : List (Int)) (0 : Int)) fun r2_ =>
      .l (r2_.1, (true, (r2_.2.1, (r2_.2.2.1, r2_.2.2.2)))))

noncomputable def F_im_NewAtlas (a1_ : List (Int)) (a2_ : List (List (Int))) : Option ((Int) × ((Bool) × ((List (Int)) × ((List (List (Int))) × (List (Int)))))) := (T_im_NewAtlas a1_ a2_).ev

noncomputable def A_im_NewAtlas : Sh := (.cons (.agg (.cons (.dat (.slice (.int .i64))) (.cons (.dat (.slice (.slice (.int .i64)))) .nil))) .nil)

noncomputable def I_im_NewAtlas : List (Nat × OSh) := []

noncomputable def K_im_NewAtlas : RetK := { acts := [.ownB 2 0 3 3 (.int .i64), .ownRB 2 1 4 29 3 (.int .i64), .ownB 2 2 5 3 (.int .i64), .ren 643 3, .ren 644 4, .ren 645 5], res := [.cell 2 35, .tmp 3], sh := (.cons (.agg (.cons (.arr 3) (.cons (.arr 4) (.cons (.arr 5) (.cons (.dat (.int .i64)) .nil))))) (.cons (.dat .bool) .nil)), obs := [(3, .arr 3 (.int .i64)), (4, .rows 29 3 (.int .i64)), (5, .arr 3 (.int .i64))], pins := [] }

noncomputable def D_im_NewAtlas : FD where
  A := A_im_NewAtlas
  ins := I_im_NewAtlas
  lend := []
  R := (Int) × ((Bool) × ((List (Int)) × ((List (List (Int))) × (List (Int)))))
  F := fun x => F_im_NewAtlas x.1.1.1 x.1.1.2.1
  emb := fun r => ([.agg [.arr 3, .arr 4, .arr 5, .dat (.int .i64) r.1], .dat .bool r.2.1], [(3, .arr 3 (.int .i64) r.2.2.1), (4, .rows 29 3 (.int .i64) r.2.2.2.1 none), (5, .arr 3 (.int .i64) r.2.2.2.2)])

noncomputable def E_im_NewAtlas : Env := envOf [(79, D_im_IsField), (80, D_im_Atlas_copied)]

noncomputable def Z_im_NewAtlas : Nat → Nat → List Nat := fun _ _ => []

noncomputable def O_im_NewAtlas : List (Nat × LD) := []

noncomputable def C_im_NewAtlas : Code := (f25.body).getD .skip

/-! ### 27 loop.example/g01110/laws.eqField -/

noncomputable def T_lw_eqField (a1_ : List (Int)) (a2_ : List (List (Int))) (a3_ : List (Int)) (a4_ : List (List (Int))) : Tr (Bool) :=
  .c (Bool) (F_lw_eqIntS a1_ a3_) fun r1_ =>
  .t (!r1_)
    (.l false)
    (.c (Bool) (F_lw_eqIntSS a2_ a4_) fun r2_ =>
      .t (!r2_)
        (.l false)
        (.l true))

noncomputable def F_lw_eqField (a1_ : List (Int)) (a2_ : List (List (Int))) (a3_ : List (Int)) (a4_ : List (List (Int))) : Option (Bool) := (T_lw_eqField a1_ a2_ a3_ a4_).ev

noncomputable def A_lw_eqField : Sh := (.cons (.agg (.cons (.dat (.slice (.int .i64))) (.cons (.dat (.slice (.slice (.int .i64)))) .nil))) (.cons (.agg (.cons (.dat (.slice (.int .i64))) (.cons (.dat (.slice (.slice (.int .i64)))) .nil))) .nil))

noncomputable def I_lw_eqField : List (Nat × OSh) := []

noncomputable def K_lw_eqField : RetK := { acts := [], res := [.tmp 4], sh := (.cons (.dat .bool) .nil), obs := [], pins := [] }

noncomputable def D_lw_eqField : FD where
  A := A_lw_eqField
  ins := I_lw_eqField
  lend := []
  R := Bool
  F := fun x => F_lw_eqField x.1.1.1 x.1.1.2.1 x.1.2.1.1 x.1.2.1.2.1
  emb := fun r => ([.dat .bool r], [])

noncomputable def E_lw_eqField : Env := envOf [(38, D_lw_eqIntS), (19, D_lw_eqIntSS)]

noncomputable def Z_lw_eqField : Nat → Nat → List Nat := fun _ _ => []

noncomputable def O_lw_eqField : List (Nat × LD) := []

noncomputable def C_lw_eqField : Code := (f27.body).getD .skip

/-! ### 26 loop.example/g01110/laws.eqAtlas -/

noncomputable def T_lw_eqAtlas (a1_ : List (Int)) (a2_ : List (List (Int))) (a3_ : List (Int)) (a4_ : Int) (a5_ : List (Int)) (a6_ : List (List (Int))) (a7_ : List (Int)) (a8_ : Int) : Tr (Bool) :=
  .c (Bool) (F_lw_eqField a1_ a2_ a5_ a6_) fun r1_ =>
  .t (!r1_)
    (.l false)
    (.c (Bool) (F_lw_eqIntS a3_ a7_) fun r2_ =>
      .t (!r2_)
        (.l false)
        (.t (a4_ != a8_)
            (.l false)
            (.l true)))

noncomputable def F_lw_eqAtlas (a1_ : List (Int)) (a2_ : List (List (Int))) (a3_ : List (Int)) (a4_ : Int) (a5_ : List (Int)) (a6_ : List (List (Int))) (a7_ : List (Int)) (a8_ : Int) : Option (Bool) := (T_lw_eqAtlas a1_ a2_ a3_ a4_ a5_ a6_ a7_ a8_).ev

noncomputable def A_lw_eqAtlas : Sh := (.cons (.agg (.cons (.dat (.slice (.int .i64))) (.cons (.dat (.slice (.slice (.int .i64)))) (.cons (.dat (.slice (.int .i64))) (.cons (.dat (.int .i64)) .nil))))) (.cons (.agg (.cons (.dat (.slice (.int .i64))) (.cons (.dat (.slice (.slice (.int .i64)))) (.cons (.dat (.slice (.int .i64))) (.cons (.dat (.int .i64)) .nil))))) .nil))

noncomputable def I_lw_eqAtlas : List (Nat × OSh) := []

noncomputable def K_lw_eqAtlas : RetK := { acts := [], res := [.tmp 4], sh := (.cons (.dat .bool) .nil), obs := [], pins := [] }

noncomputable def D_lw_eqAtlas : FD where
  A := A_lw_eqAtlas
  ins := I_lw_eqAtlas
  lend := []
  R := Bool
  F := fun x => F_lw_eqAtlas x.1.1.1 x.1.1.2.1 x.1.1.2.2.1 x.1.1.2.2.2.1 x.1.2.1.1 x.1.2.1.2.1 x.1.2.1.2.2.1 x.1.2.1.2.2.2.1
  emb := fun r => ([.dat .bool r], [])

noncomputable def E_lw_eqAtlas : Env := envOf [(27, D_lw_eqField), (38, D_lw_eqIntS)]

noncomputable def Z_lw_eqAtlas : Nat → Nat → List Nat := fun _ _ => []

noncomputable def O_lw_eqAtlas : List (Nat × LD) := []

noncomputable def C_lw_eqAtlas : Code := (f26.body).getD .skip

/-! ### 28 loop.example/g01110/laws.markField -/

noncomputable def T_lw_markField (a3_ : Int) (a1_ : List (Int)) (a2_ : List (List (Int))) : Tr ((Int) × ((List (Int)) × (List (List (Int))))) :=
  .c ((Int) × (List (Int))) (F_lw_markIntS a3_ a1_) fun r1_ =>
  .c ((Int) × (List (List (Int)))) (F_lw_markIntSS r1_.1 a2_) fun r2_ =>
  .l (r2_.1, (r1_.2, r2_.2))

noncomputable def F_lw_markField (a3_ : Int) (a1_ : List (Int)) (a2_ : List (List (Int))) : Option ((Int) × ((List (Int)) × (List (List (Int))))) := (T_lw_markField a3_ a1_ a2_).ev

noncomputable def A_lw_markField : Sh := (.cons (.agg (.cons (.arr 64) (.cons (.arr 65) .nil))) (.cons (.dat (.int .i64)) .nil))

noncomputable def I_lw_markField : List (Nat × OSh) := [(64, .arr 3 (.int .i64)), (65, .rows 29 3 (.int .i64))]

noncomputable def K_lw_markField : RetK := { acts := [], res := [.tmp 4], sh := (.cons (.dat (.int .i64)) .nil), obs := [(64, .arr 3 (.int .i64)), (65, .rows 29 3 (.int .i64))], pins := [(0, 1, 64), (0, 2, 65)] }

noncomputable def D_lw_markField : FD where
  A := A_lw_markField
  ins := I_lw_markField
  lend := [.comp 0 0, .comp 0 1]
  R := (Int) × ((List (Int)) × (List (List (Int))))
  F := fun x => F_lw_markField x.1.2.1 x.2.1 x.2.2.1
  emb := fun r => ([.dat (.int .i64) r.1], [(64, .arr 3 (.int .i64) r.2.1), (65, .rows 29 3 (.int .i64) r.2.2 none)])

noncomputable def E_lw_markField : Env := envOf [(46, D_lw_markIntS), (20, D_lw_markIntSS)]

noncomputable def Z_lw_markField : Nat → Nat → List Nat := fun _ _ => []

noncomputable def O_lw_markField : List (Nat × LD) := []

noncomputable def C_lw_markField : Code := (f28.body).getD .skip

/-! ### 29 loop.example/g01110/laws.markAtlas -/

noncomputable def T_lw_markAtlas (_a4_ : Int) (a5_ : Int) (a1_ : List (Int)) (a2_ : List (List (Int))) (a3_ : List (Int)) : Tr ((Int) × ((List (Int)) × ((List (List (Int))) × (List (Int))))) :=
  .c ((Int) × ((List (Int)) × (List (List (Int))))) (F_lw_markField a5_ a1_ a2_) fun r1_ =>
  .c ((Int) × (List (Int))) (F_lw_markIntS r1_.1 a3_) fun r2_ =>
  .l (r2_.1, (r1_.2.1, (r1_.2.2, r2_.2)))

noncomputable def F_lw_markAtlas (a4_ : Int) (a5_ : Int) (a1_ : List (Int)) (a2_ : List (List (Int))) (a3_ : List (Int)) : Option ((Int) × ((List (Int)) × ((List (List (Int))) × (List (Int))))) := (T_lw_markAtlas a4_ a5_ a1_ a2_ a3_).ev

noncomputable def A_lw_markAtlas : Sh := (.cons (.agg (.cons (.arr 64) (.cons (.arr 65) (.cons (.arr 66) (.cons (.dat (.int .i64)) .nil))))) (.cons (.dat (.int .i64)) .nil))

noncomputable def I_lw_markAtlas : List (Nat × OSh) := [(64, .arr 3 (.int .i64)), (65, .rows 29 3 (.int .i64)), (66, .arr 3 (.int .i64))]

noncomputable def K_lw_markAtlas : RetK := { acts := [], res := [.tmp 4], sh := (.cons (.dat (.int .i64)) .nil), obs := [(64, .arr 3 (.int .i64)), (65, .rows 29 3 (.int .i64)), (66, .arr 3 (.int .i64))], pins := [(0, 1, 64), (0, 2, 65), (0, 3, 66)] }

noncomputable def D_lw_markAtlas : FD where
  A := A_lw_markAtlas
  ins := I_lw_markAtlas
  lend := [.comp 0 0, .comp 0 1, .comp 0 2]
  R := (Int) × ((List (Int)) × ((List (List (Int))) × (List (Int))))
  F := fun x => F_lw_markAtlas x.1.1.2.2.2.1 x.1.2.1 x.2.1 x.2.2.1 x.2.2.2.1
  emb := fun r => ([.dat (.int .i64) r.1], [(64, .arr 3 (.int .i64) r.2.1), (65, .rows 29 3 (.int .i64) r.2.2.1 none), (66, .arr 3 (.int .i64) r.2.2.2)])

noncomputable def E_lw_markAtlas : Env := envOf [(28, D_lw_markField), (46, D_lw_markIntS)]

noncomputable def Z_lw_markAtlas : Nat → Nat → List Nat := fun _ _ => []

noncomputable def O_lw_markAtlas : List (Nat × LD) := []

noncomputable def C_lw_markAtlas : Code := (f29.body).getD .skip

/-! ### 81 loop.example/g01110/laws.heldField -/

noncomputable def T_lw_heldField (a1_ : List (Int)) (a2_ : List (List (Int))) (a3_ : Int) : Tr (Int) :=
  .c (Int) (F_lw_heldIntS a1_ a3_) fun r1_ =>
  .t (decide (r1_ < (0 : Int)))
    (.l (-1 : Int))
    (.c (Int) (F_lw_heldIntSS a2_ r1_) fun r2_ =>
      .t (decide (r2_ < (0 : Int)))
        (.l (-1 : Int))
        (.l r2_))

noncomputable def F_lw_heldField (a1_ : List (Int)) (a2_ : List (List (Int))) (a3_ : Int) : Option (Int) := (T_lw_heldField a1_ a2_ a3_).ev

noncomputable def A_lw_heldField : Sh := (.cons (.agg (.cons (.dat (.slice (.int .i64))) (.cons (.dat (.slice (.slice (.int .i64)))) .nil))) (.cons (.dat (.int .i64)) .nil))

noncomputable def I_lw_heldField : List (Nat × OSh) := []

noncomputable def K_lw_heldField : RetK := { acts := [], res := [.tmp 4], sh := (.cons (.dat (.int .i64)) .nil), obs := [], pins := [] }

noncomputable def D_lw_heldField : FD where
  A := A_lw_heldField
  ins := I_lw_heldField
  lend := []
  R := Int
  F := fun x => F_lw_heldField x.1.1.1 x.1.1.2.1 x.1.2.1
  emb := fun r => ([.dat (.int .i64) r], [])

noncomputable def E_lw_heldField : Env := envOf [(47, D_lw_heldIntS), (21, D_lw_heldIntSS)]

noncomputable def Z_lw_heldField : Nat → Nat → List Nat := fun _ _ => []

noncomputable def O_lw_heldField : List (Nat × LD) := []

noncomputable def C_lw_heldField : Code := (f81.body).getD .skip

/-! ### 30 loop.example/g01110/laws.heldAtlas -/

noncomputable def T_lw_heldAtlas (a1_ : List (Int)) (a2_ : List (List (Int))) (a3_ : List (Int)) (_a4_ : Int) (a5_ : Int) : Tr (Int) :=
  .c (Int) (F_lw_heldField a1_ a2_ a5_) fun r1_ =>
  .t (decide (r1_ < (0 : Int)))
    (.l (-1 : Int))
    (.c (Int) (F_lw_heldIntS a3_ r1_) fun r2_ =>
      .t (decide (r2_ < (0 : Int)))
        (.l (-1 : Int))
        (.l r2_))

noncomputable def F_lw_heldAtlas (a1_ : List (Int)) (a2_ : List (List (Int))) (a3_ : List (Int)) (a4_ : Int) (a5_ : Int) : Option (Int) := (T_lw_heldAtlas a1_ a2_ a3_ a4_ a5_).ev

noncomputable def A_lw_heldAtlas : Sh := (.cons (.agg (.cons (.dat (.slice (.int .i64))) (.cons (.dat (.slice (.slice (.int .i64)))) (.cons (.dat (.slice (.int .i64))) (.cons (.dat (.int .i64)) .nil))))) (.cons (.dat (.int .i64)) .nil))

noncomputable def I_lw_heldAtlas : List (Nat × OSh) := []

noncomputable def K_lw_heldAtlas : RetK := { acts := [], res := [.tmp 4], sh := (.cons (.dat (.int .i64)) .nil), obs := [], pins := [] }

noncomputable def D_lw_heldAtlas : FD where
  A := A_lw_heldAtlas
  ins := I_lw_heldAtlas
  lend := []
  R := Int
  F := fun x => F_lw_heldAtlas x.1.1.1 x.1.1.2.1 x.1.1.2.2.1 x.1.1.2.2.2.1 x.1.2.1
  emb := fun r => ([.dat (.int .i64) r], [])

noncomputable def E_lw_heldAtlas : Env := envOf [(81, D_lw_heldField), (47, D_lw_heldIntS)]

noncomputable def Z_lw_heldAtlas : Nat → Nat → List Nat := fun _ _ => []

noncomputable def O_lw_heldAtlas : List (Nat × LD) := []

noncomputable def C_lw_heldAtlas : Code := (f30.body).getD .skip

/-! ### 4 loop.example/g01110/laws.FnExactNewAtlas -/

noncomputable def T_lw_FnExactNewAtlas (a1_ : List (Int)) (a2_ : List (List (Int))) : Tr (Bool) :=
  .c (Int) (F_lw_szField a1_ a2_ (1048576 : Int)) fun r1_ =>
  .t (decide (r1_ < (0 : Int)))
    (.l true)
    (.c ((List (Int)) × (List (List (Int)))) (F_lw_toField a1_ a2_) fun r2_ =>
      .c ((Int) × ((Bool) × ((List (Int)) × ((List (List (Int))) × (List (Int)))))) (F_sp_NewAtlas r2_.1 r2_.2) fun r3_ =>
      .c ((List (Int)) × (List (List (Int)))) (F_lw_toField a1_ a2_) fun r4_ =>
      .c ((Int) × ((Bool) × ((List (Int)) × ((List (List (Int))) × (List (Int)))))) (F_im_NewAtlas r4_.1 r4_.2) fun r5_ =>
      .c (Bool) (F_lw_eqAtlas r5_.2.2.1 r5_.2.2.2.1 r5_.2.2.2.2 r5_.1 r3_.2.2.1 r3_.2.2.2.1 r3_.2.2.2.2 r3_.1) fun r6_ =>
      .t (!r6_)
        (.l false)
        (.t (!(r5_.2.1 == r3_.2.1))
            (.l false)
            (.c ((List (Int)) × (List (List (Int)))) (F_lw_toField a1_ a2_) fun r7_ =>
              .c (Bool) (F_lw_eqField r4_.1 r4_.2 r7_.1 r7_.2) fun r8_ =>
              .t (!r8_)
                (.l false)
                (.c ((Int) × ((List (Int)) × (List (List (Int))))) (F_lw_markField (1 : Int) r4_.1 r4_.2) fun r9_ =>
                  .t (decide (r9_.1 < (0 : Int)))
                    (.l false)
                    (.c (Bool) (F_lw_eqAtlas r5_.2.2.1 r5_.2.2.2.1 r5_.2.2.2.2 r5_.1 r3_.2.2.1 r3_.2.2.2.1 r3_.2.2.2.2 r3_.1) fun r10_ =>
                      .t (!r10_)
                        (.l false)
                        (.t (!(r5_.2.1 == r3_.2.1))
                            (.l false)
                            (.c ((Int) × ((List (Int)) × ((List (List (Int))) × (List (Int))))) (F_lw_markAtlas r5_.1 (1 : Int) r5_.2.2.1 r5_.2.2.2.1 r5_.2.2.2.2) fun r11_ =>
                              .c (Int) (F_lw_heldAtlas r11_.2.1 r11_.2.2.1 r11_.2.2.2 r5_.1 (1 : Int)) fun r12_ =>
                              .t (decide (r12_ < (0 : Int)))
                                (.l false)
                                (.t (r12_ != r11_.1)
                                    (.l false)
                                    (.c ((List (Int)) × (List (List (Int)))) (F_lw_toField a1_ a2_) fun r13_ =>
                                      .c ((Int) × ((Bool) × ((List (Int)) × ((List (List (Int))) × (List (Int)))))) (F_im_NewAtlas r13_.1 r13_.2) fun r14_ =>
                                      .c (Bool) (F_lw_eqAtlas r14_.2.2.1 r14_.2.2.2.1 r14_.2.2.2.2 r14_.1 r3_.2.2.1 r3_.2.2.2.1 r3_.2.2.2.2 r3_.1) fun r15_ =>
                                      .t (!r15_)
                                        (.l false)
                                        (.t (!(r14_.2.1 == r3_.2.1))
                                            (.l false)
                                            (.c (Int) (F_lw_heldAtlas r11_.2.1 r11_.2.2.1 r11_.2.2.2 r5_.1 (1 : Int)) fun r16_ =>
                                              .t (decide (r16_ < (0 : Int)))
                                                (.l false)
                                                (.t (r16_ != r11_.1)
                                                    (.l false)
                                                    (.l true)))))))))))))

noncomputable def F_lw_FnExactNewAtlas (a1_ : List (Int)) (a2_ : List (List (Int))) : Option (Bool) := (T_lw_FnExactNewAtlas a1_ a2_).ev

noncomputable def A_lw_FnExactNewAtlas : Sh := (.cons (.agg (.cons (.dat (.slice (.int .i64))) (.cons (.dat (.slice (.slice (.int .i64)))) .nil))) .nil)

noncomputable def I_lw_FnExactNewAtlas : List (Nat × OSh) := []

noncomputable def K_lw_FnExactNewAtlas : RetK := { acts := [], res := [.tmp 2], sh := (.cons (.dat .bool) .nil), obs := [], pins := [] }

noncomputable def D_lw_FnExactNewAtlas : FD where
  A := A_lw_FnExactNewAtlas
  ins := I_lw_FnExactNewAtlas
  lend := []
  R := Bool
  F := fun x => F_lw_FnExactNewAtlas x.1.1.1 x.1.1.2.1
  emb := fun r => ([.dat .bool r], [])

noncomputable def E_lw_FnExactNewAtlas : Env := envOf [(22, D_lw_szField), (24, D_lw_toField), (23, D_sp_NewAtlas), (25, D_im_NewAtlas), (26, D_lw_eqAtlas), (27, D_lw_eqField), (28, D_lw_markField), (29, D_lw_markAtlas), (30, D_lw_heldAtlas)]

noncomputable def Z_lw_FnExactNewAtlas : Nat → Nat → List Nat := fun _ _ => []

noncomputable def O_lw_FnExactNewAtlas : List (Nat × LD) := []

noncomputable def C_lw_FnExactNewAtlas : Code := (f4.body).getD .skip

/-! ### 31 loop.example/g01110/laws.szAtlas -/

noncomputable def T_lw_szAtlas (a1_ : List (Int)) (a2_ : List (List (Int))) (a3_ : List (Int)) (_a4_ : Int) (a5_ : Int) : Tr (Int) :=
  .c (Int) (F_lw_szField a1_ a2_ a5_) fun r1_ =>
  .t (decide (r1_ < (0 : Int)))
    (.l (-1 : Int))
    (.c (Int) (F_lw_szIntS a3_ r1_) fun r2_ =>
      .t (decide (r2_ < (0 : Int)))
        (.l (-1 : Int))
        (.l r2_))

noncomputable def F_lw_szAtlas (a1_ : List (Int)) (a2_ : List (List (Int))) (a3_ : List (Int)) (a4_ : Int) (a5_ : Int) : Option (Int) := (T_lw_szAtlas a1_ a2_ a3_ a4_ a5_).ev

noncomputable def A_lw_szAtlas : Sh := (.cons (.agg (.cons (.dat (.slice (.int .i64))) (.cons (.dat (.slice (.slice (.int .i64)))) (.cons (.dat (.slice (.int .i64))) (.cons (.dat (.int .i64)) .nil))))) (.cons (.dat (.int .i64)) .nil))

noncomputable def I_lw_szAtlas : List (Nat × OSh) := []

noncomputable def K_lw_szAtlas : RetK := { acts := [], res := [.tmp 4], sh := (.cons (.dat (.int .i64)) .nil), obs := [], pins := [] }

noncomputable def D_lw_szAtlas : FD where
  A := A_lw_szAtlas
  ins := I_lw_szAtlas
  lend := []
  R := Int
  F := fun x => F_lw_szAtlas x.1.1.1 x.1.1.2.1 x.1.1.2.2.1 x.1.1.2.2.2.1 x.1.2.1
  emb := fun r => ([.dat (.int .i64) r], [])

noncomputable def E_lw_szAtlas : Env := envOf [(22, D_lw_szField), (69, D_lw_szIntS)]

noncomputable def Z_lw_szAtlas : Nat → Nat → List Nat := fun _ _ => []

noncomputable def O_lw_szAtlas : List (Nat × LD) := []

noncomputable def C_lw_szAtlas : Code := (f31.body).getD .skip

/-! ### 33 loop.example/g01110/laws.toAtlas -/

noncomputable def T_lw_toAtlas (a1_ : List (Int)) (a2_ : List (List (Int))) (a3_ : List (Int)) (a4_ : Int) : Tr ((Int) × ((List (Int)) × ((List (List (Int))) × (List (Int))))) :=
  .c ((List (Int)) × (List (List (Int)))) (F_lw_toField a1_ a2_) fun r1_ =>
  .c (List (Int)) (F_lw_toIntS a3_) fun r2_ =>
  .l (a4_, (r1_.1, (r1_.2, r2_)))

noncomputable def F_lw_toAtlas (a1_ : List (Int)) (a2_ : List (List (Int))) (a3_ : List (Int)) (a4_ : Int) : Option ((Int) × ((List (Int)) × ((List (List (Int))) × (List (Int))))) := (T_lw_toAtlas a1_ a2_ a3_ a4_).ev

noncomputable def A_lw_toAtlas : Sh := (.cons (.agg (.cons (.dat (.slice (.int .i64))) (.cons (.dat (.slice (.slice (.int .i64)))) (.cons (.dat (.slice (.int .i64))) (.cons (.dat (.int .i64)) .nil))))) .nil)

noncomputable def I_lw_toAtlas : List (Nat × OSh) := []

noncomputable def K_lw_toAtlas : RetK := { acts := [.ren 388 4, .ren 389 5, .ren 640 6], res := [.cell 2 35], sh := (.cons (.agg (.cons (.arr 4) (.cons (.arr 5) (.cons (.arr 6) (.cons (.dat (.int .i64)) .nil))))) .nil), obs := [(4, .arr 3 (.int .i64)), (5, .rows 29 3 (.int .i64)), (6, .arr 3 (.int .i64))], pins := [] }

noncomputable def D_lw_toAtlas : FD where
  A := A_lw_toAtlas
  ins := I_lw_toAtlas
  lend := []
  R := (Int) × ((List (Int)) × ((List (List (Int))) × (List (Int))))
  F := fun x => F_lw_toAtlas x.1.1.1 x.1.1.2.1 x.1.1.2.2.1 x.1.1.2.2.2.1
  emb := fun r => ([.agg [.arr 4, .arr 5, .arr 6, .dat (.int .i64) r.1]], [(4, .arr 3 (.int .i64) r.2.1), (5, .rows 29 3 (.int .i64) r.2.2.1 none), (6, .arr 3 (.int .i64) r.2.2.2)])

noncomputable def E_lw_toAtlas : Env := envOf [(24, D_lw_toField), (36, D_lw_toIntS)]

noncomputable def Z_lw_toAtlas : Nat → Nat → List Nat := fun _ _ => []

noncomputable def O_lw_toAtlas : List (Nat × LD) := []

noncomputable def C_lw_toAtlas : Code := (f33.body).getD .skip

/-! ### 39 loop.example/g01110/spec.NewConsole -/

noncomputable def T_sp_NewConsole (a1_ : List (Int)) (a2_ : List (List (Int))) (a3_ : List (Int)) (a4_ : Int) : Tr ((Int) × ((List UInt8) × ((List UInt8) × ((Int) × ((Bool) × ((List (Int)) × ((List (List (Int))) × (List (Int))))))))) :=
  .c (Bool) (F_sp_l12Good a1_ a2_ a3_ a4_) fun r1_ =>
  .t (!r1_)
    (.l ((0 : Int), (([] : List UInt8), (([] : List UInt8), ((0 : Int), (false, (([] : List (Int)), (([] : List (List (Int))), ([] : List (Int))))))))))
    (.c ((Int) × ((List (Int)) × ((List (List (Int))) × (List (Int))))) (F_sp_l12Own a1_ a2_ a3_ a4_) fun r2_ =>
      .l (r2_.1, (([] : List UInt8), (([] : List UInt8), ((0 : Int), (true, (r2_.2.1, (r2_.2.2.1, r2_.2.2.2))))))))

noncomputable def F_sp_NewConsole (a1_ : List (Int)) (a2_ : List (List (Int))) (a3_ : List (Int)) (a4_ : Int) : Option ((Int) × ((List UInt8) × ((List UInt8) × ((Int) × ((Bool) × ((List (Int)) × ((List (List (Int))) × (List (Int))))))))) := (T_sp_NewConsole a1_ a2_ a3_ a4_).ev

noncomputable def A_sp_NewConsole : Sh := (.cons (.agg (.cons (.dat (.slice (.int .i64))) (.cons (.dat (.slice (.slice (.int .i64)))) (.cons (.dat (.slice (.int .i64))) (.cons (.dat (.int .i64)) .nil))))) .nil)

noncomputable def I_sp_NewConsole : List (Nat × OSh) := []

noncomputable def K_sp_NewConsole : RetK := { acts := [.ownB 2 0 3 3 (.int .i64), .ownRB 2 1 4 29 3 (.int .i64), .ownB 2 2 5 3 (.int .i64), .ren 580 3, .ren 581 4, .ren 582 5], res := [.cell 2 58, .tmp 3], sh := (.cons (.agg (.cons (.arr 3) (.cons (.arr 4) (.cons (.arr 5) (.cons (.dat (.int .i64)) (.cons (.dat .str) (.cons (.dat .str) (.cons (.dat (.int .i64)) .nil)))))))) (.cons (.dat .bool) .nil)), obs := [(3, .arr 3 (.int .i64)), (4, .rows 29 3 (.int .i64)), (5, .arr 3 (.int .i64))], pins := [] }

noncomputable def D_sp_NewConsole : FD where
  A := A_sp_NewConsole
  ins := I_sp_NewConsole
  lend := []
  R := (Int) × ((List UInt8) × ((List UInt8) × ((Int) × ((Bool) × ((List (Int)) × ((List (List (Int))) × (List (Int))))))))
  F := fun x => F_sp_NewConsole x.1.1.1 x.1.1.2.1 x.1.1.2.2.1 x.1.1.2.2.2.1
  emb := fun r => ([.agg [.arr 3, .arr 4, .arr 5, .dat (.int .i64) r.1, .dat .str r.2.1, .dat .str r.2.2.1, .dat (.int .i64) r.2.2.2.1], .dat .bool r.2.2.2.2.1], [(3, .arr 3 (.int .i64) r.2.2.2.2.2.1), (4, .rows 29 3 (.int .i64) r.2.2.2.2.2.2.1 none), (5, .arr 3 (.int .i64) r.2.2.2.2.2.2.2)])

noncomputable def E_sp_NewConsole : Env := envOf [(77, D_sp_l12Good), (78, D_sp_l12Own)]

noncomputable def Z_sp_NewConsole : Nat → Nat → List Nat := fun _ _ => []

noncomputable def O_sp_NewConsole : List (Nat × LD) := []

noncomputable def C_sp_NewConsole : Code := (f39.body).getD .skip

/-! ### 146 loop.example/g01110/impl.isRising -/

noncomputable def S_im_isRising_0 (k : (List (Int)) × ((Int) × ((List (Int)) × (Int)))) (v : Int) : Tr ((Int) ⊕ ((Unit) ⊕ (Unit))) :=
  .t (decide (v < k.2.2.2))
    (.g (inR v (List.length k.2.2.1)) <|
      .c (Bool) (F_im_between (List.getD k.2.2.1 (Int.toNat v) (0 : Int)) (0 : Int) (IntKind.wrap .i64 (k.2.1 - (1 : Int)))) fun r6_ =>
      .t (!r6_)
        (.l (.inr (.inr ())))
        (.t (decide ((0 : Int) < v))
            (.g (inR (IntKind.wrap .i64 (v - (1 : Int))) (List.length k.1)) <|
              .t (decide ((List.getD k.2.2.1 (Int.toNat v) (0 : Int)) ≤ (List.getD k.1 (Int.toNat (IntKind.wrap .i64 (v - (1 : Int)))) (0 : Int))))
                (.l (.inr (.inr ())))
                (.l (.inl (IntKind.wrap .i64 (v + (1 : Int))))))
            (.l (.inl (IntKind.wrap .i64 (v + (1 : Int)))))))
    (.l (.inr (.inl ())))

noncomputable def L_im_isRising_0 (k : (List (Int)) × ((Int) × ((List (Int)) × (Int)))) (v : Int) : Option ((Unit) ⊕ (Unit)) := iter (fun v => (S_im_isRising_0 k v).ev) v

noncomputable def DL_im_isRising_0 : LD where
  head := { acts := [], S := { slots := [0, 1, 7, 8, 9], sh := (.cons (.dat (.slice (.int .i64))) (.cons (.dat (.int .i64)) (.cons (.dat (.slice (.int .i64))) (.cons (.dat (.int .i64)) (.cons (.dat (.int .i64)) .nil))))), obs := [] } }
  exits := [(0, { acts := [], S := { slots := [], sh := .nil, obs := [] } })]
  rets := { acts := [], S := { slots := [4], sh := (.cons (.dat .bool) .nil), obs := [] } }
  K := (List (Int)) × ((Int) × ((List (Int)) × (Int)))
  V := Int
  R := (Unit) ⊕ (Unit)
  join := fun k v => ((k.1, (k.2.1, (k.2.2.1, (k.2.2.2, (v, ()))))), ())
  sk := fun t => (t.1.1, (t.1.2.1, (t.1.2.2.1, t.1.2.2.2.1)))
  sv := fun t => t.1.2.2.2.2.1
  step := S_im_isRising_0
  leaf := fun _ r => .s (Unit) (Unit) r (fun _ => .l (.exit 0 (mkSt ({ slots := [], sh := .nil, obs := [] }) ((), ())))) (fun _ => .l (.ret (mkSt ({ slots := [4], sh := (.cons (.dat .bool) .nil), obs := [] }) ((false, ()), ()))))

noncomputable def T_im_isRising (a1_ : List (Int)) (a2_ : Int) : Tr (Bool) :=
  .c ((Unit) ⊕ (Unit)) (L_im_isRising_0 (a1_, (a2_, (a1_, ((List.length a1_ : Nat) : Int)))) (0 : Int)) fun r8_ =>
  .s (Unit) (Unit) r8_
    (fun _ => .l true)
    (fun _ => .l false)

noncomputable def F_im_isRising (a1_ : List (Int)) (a2_ : Int) : Option (Bool) := (T_im_isRising a1_ a2_).ev

noncomputable def A_im_isRising : Sh := (.cons (.dat (.slice (.int .i64))) (.cons (.dat (.int .i64)) .nil))

noncomputable def I_im_isRising : List (Nat × OSh) := []

noncomputable def K_im_isRising : RetK := { acts := [], res := [.tmp 4], sh := (.cons (.dat .bool) .nil), obs := [], pins := [] }

noncomputable def D_im_isRising : FD where
  A := A_im_isRising
  ins := I_im_isRising
  lend := []
  R := Bool
  F := fun x => F_im_isRising x.1.1 x.1.2.1
  emb := fun r => ([.dat .bool r], [])

noncomputable def E_im_isRising : Env := envOf [(73, D_im_between)]

noncomputable def Z_im_isRising : Nat → Nat → List Nat := fun _ _ => []

noncomputable def O_im_isRising : List (Nat × LD) := [(0, DL_im_isRising_0)]

noncomputable def C_im_isRising : Code := (f146.body).getD .skip

/-! ### 83 loop.example/g01110/impl.IsAtlas -/

noncomputable def T_im_IsAtlas (a1_ : List (Int)) (a2_ : List (List (Int))) (a3_ : List (Int)) (a4_ : Int) : Tr (Bool) :=
  .c (Bool) (F_im_IsField a1_ a2_) fun r1_ =>
  .t r1_
    (.c (Bool) (F_im_isRising a3_ ((List.length a1_ : Nat) : Int)) fun r2_ =>
      .t r2_
        (.c (Bool) (F_im_between a4_ (0 : Int) (1000 : Int)) fun r3_ =>
          .l r3_)
        (.l false))
    (.l false)

noncomputable def F_im_IsAtlas (a1_ : List (Int)) (a2_ : List (List (Int))) (a3_ : List (Int)) (a4_ : Int) : Option (Bool) := (T_im_IsAtlas a1_ a2_ a3_ a4_).ev

noncomputable def A_im_IsAtlas : Sh := (.cons (.agg (.cons (.dat (.slice (.int .i64))) (.cons (.dat (.slice (.slice (.int .i64)))) (.cons (.dat (.slice (.int .i64))) (.cons (.dat (.int .i64)) .nil))))) .nil)

noncomputable def I_im_IsAtlas : List (Nat × OSh) := []

noncomputable def K_im_IsAtlas : RetK := { acts := [], res := [.tmp 2], sh := (.cons (.dat .bool) .nil), obs := [], pins := [] }

noncomputable def D_im_IsAtlas : FD where
  A := A_im_IsAtlas
  ins := I_im_IsAtlas
  lend := []
  R := Bool
  F := fun x => F_im_IsAtlas x.1.1.1 x.1.1.2.1 x.1.1.2.2.1 x.1.1.2.2.2.1
  emb := fun r => ([.dat .bool r], [])

noncomputable def E_im_IsAtlas : Env := envOf [(79, D_im_IsField), (146, D_im_isRising), (73, D_im_between)]

noncomputable def Z_im_IsAtlas : Nat → Nat → List Nat := fun _ _ => []

noncomputable def O_im_IsAtlas : List (Nat × LD) := []

noncomputable def C_im_IsAtlas : Code := (f83.body).getD .skip

/-! ### 40 loop.example/g01110/impl.NewConsole -/

noncomputable def T_im_NewConsole (a1_ : List (Int)) (a2_ : List (List (Int))) (a3_ : List (Int)) (a4_ : Int) : Tr ((Int) × ((List UInt8) × ((List UInt8) × ((Int) × ((Bool) × ((List (Int)) × ((List (List (Int))) × (List (Int))))))))) :=
  .c (Bool) (F_im_IsAtlas a1_ a2_ a3_ a4_) fun r1_ =>
  .t (!r1_)
    (.l ((0 : Int), (([] : List UInt8), (([] : List UInt8), ((0 : Int), (false, (([] : List (Int)), (([] : List (List (Int))), ([] : List (Int))))))))))
    (.c ((Int) × ((List (Int)) × ((List (List (Int))) × (List (Int))))) (F_im_Atlas_copied a1_ a2_ a3_ a4_) fun r2_ =>
      .l (r2_.1, (([] : List UInt8), (([] : List UInt8), ((0 : Int), (true, (r2_.2.1, (r2_.2.2.1, r2_.2.2.2))))))))

noncomputable def F_im_NewConsole (a1_ : List (Int)) (a2_ : List (List (Int))) (a3_ : List (Int)) (a4_ : Int) : Option ((Int) × ((List UInt8) × ((List UInt8) × ((Int) × ((Bool) × ((List (Int)) × ((List (List (Int))) × (List (Int))))))))) := (T_im_NewConsole a1_ a2_ a3_ a4_).ev

noncomputable def A_im_NewConsole : Sh := (.cons (.agg (.cons (.dat (.slice (.int .i64))) (.cons (.dat (.slice (.slice (.int .i64)))) (.cons (.dat (.slice (.int .i64))) (.cons (.dat (.int .i64)) .nil))))) .nil)

noncomputable def I_im_NewConsole : List (Nat × OSh) := []

noncomputable def K_im_NewConsole : RetK := { acts := [.ownB 2 0 3 3 (.int .i64), .ownRB 2 1 4 29 3 (.int .i64), .ownB 2 2 5 3 (.int .i64), .ren 579 3, .ren 580 4, .ren 581 5], res := [.cell 2 58, .tmp 3], sh := (.cons (.agg (.cons (.arr 3) (.cons (.arr 4) (.cons (.arr 5) (.cons (.dat (.int .i64)) (.cons (.dat .str) (.cons (.dat .str) (.cons (.dat (.int .i64)) .nil)))))))) (.cons (.dat .bool) .nil)), obs := [(3, .arr 3 (.int .i64)), (4, .rows 29 3 (.int .i64)), (5, .arr 3 (.int .i64))], pins := [] }

noncomputable def D_im_NewConsole : FD where
  A := A_im_NewConsole
  ins := I_im_NewConsole
  lend := []
  R := (Int) × ((List UInt8) × ((List UInt8) × ((Int) × ((Bool) × ((List (Int)) × ((List (List (Int))) × (List (Int))))))))
  F := fun x => F_im_NewConsole x.1.1.1 x.1.1.2.1 x.1.1.2.2.1 x.1.1.2.2.2.1
  emb := fun r => ([.agg [.arr 3, .arr 4, .arr 5, .dat (.int .i64) r.1, .dat .str r.2.1, .dat .str r.2.2.1, .dat (.int .i64) r.2.2.2.1], .dat .bool r.2.2.2.2.1], [(3, .arr 3 (.int .i64) r.2.2.2.2.2.1), (4, .rows 29 3 (.int .i64) r.2.2.2.2.2.2.1 none), (5, .arr 3 (.int .i64) r.2.2.2.2.2.2.2)])

noncomputable def E_im_NewConsole : Env := envOf [(83, D_im_IsAtlas), (80, D_im_Atlas_copied)]

noncomputable def Z_im_NewConsole : Nat → Nat → List Nat := fun _ _ => []

noncomputable def O_im_NewConsole : List (Nat × LD) := []

noncomputable def C_im_NewConsole : Code := (f40.body).getD .skip

/-! ### 91 loop.example/g01110/laws.eqLog -/

noncomputable def T_lw_eqLog (a1_ : List UInt8) (a2_ : List UInt8) (a3_ : Int) (a4_ : List UInt8) (a5_ : List UInt8) (a6_ : Int) : Tr (Bool) :=
  .t (!(a1_ == a4_))
    (.l false)
    (.t (!(a2_ == a5_))
        (.l false)
        (.t (a3_ != a6_)
            (.l false)
            (.l true)))

noncomputable def F_lw_eqLog (a1_ : List UInt8) (a2_ : List UInt8) (a3_ : Int) (a4_ : List UInt8) (a5_ : List UInt8) (a6_ : Int) : Option (Bool) := (T_lw_eqLog a1_ a2_ a3_ a4_ a5_ a6_).ev

noncomputable def A_lw_eqLog : Sh := (.cons (.agg (.cons (.dat .str) (.cons (.dat .str) (.cons (.dat (.int .i64)) .nil)))) (.cons (.agg (.cons (.dat .str) (.cons (.dat .str) (.cons (.dat (.int .i64)) .nil)))) .nil))

noncomputable def I_lw_eqLog : List (Nat × OSh) := []

noncomputable def K_lw_eqLog : RetK := { acts := [], res := [.tmp 4], sh := (.cons (.dat .bool) .nil), obs := [], pins := [] }

noncomputable def D_lw_eqLog : FD where
  A := A_lw_eqLog
  ins := I_lw_eqLog
  lend := []
  R := Bool
  F := fun x => F_lw_eqLog x.1.1.1 x.1.1.2.1 x.1.1.2.2.1 x.1.2.1.1 x.1.2.1.2.1 x.1.2.1.2.2.1
  emb := fun r => ([.dat .bool r], [])

noncomputable def E_lw_eqLog : Env := envOf []

noncomputable def Z_lw_eqLog : Nat → Nat → List Nat := fun _ _ => []

noncomputable def O_lw_eqLog : List (Nat × LD) := []

noncomputable def C_lw_eqLog : Code := (f91.body).getD .skip

/-! ### 41 loop.example/g01110/laws.eqConsole -/

noncomputable def T_lw_eqConsole (a1_ : List (Int)) (a2_ : List (List (Int))) (a3_ : List (Int)) (a4_ : Int) (a5_ : List UInt8) (a6_ : List UInt8) (a7_ : Int) (a8_ : List (Int)) (a9_ : List (List (Int))) (a10_ : List (Int)) (a11_ : Int) (a12_ : List UInt8) (a13_ : List UInt8) (a14_ : Int) : Tr (Bool) :=
  .c (Bool) (F_lw_eqAtlas a1_ a2_ a3_ a4_ a8_ a9_ a10_ a11_) fun r1_ =>
  .t (!r1_)
    (.l false)
    (.c (Bool) (F_lw_eqLog a5_ a6_ a7_ a12_ a13_ a14_) fun r2_ =>
      .t (!r2_)
        (.l false)
        (.l true))

noncomputable def F_lw_eqConsole (a1_ : List (Int)) (a2_ : List (List (Int))) (a3_ : List (Int)) (a4_ : Int) (a5_ : List UInt8) (a6_ : List UInt8) (a7_ : Int) (a8_ : List (Int)) (a9_ : List (List (Int))) (a10_ : List (Int)) (a11_ : Int) (a12_ : List UInt8) (a13_ : List UInt8) (a14_ : Int) : Option (Bool) := (T_lw_eqConsole a1_ a2_ a3_ a4_ a5_ a6_ a7_ a8_ a9_ a10_ a11_ a12_ a13_ a14_).ev

noncomputable def A_lw_eqConsole : Sh := (.cons (.agg (.cons (.dat (.slice (.int .i64))) (.cons (.dat (.slice (.slice (.int .i64)))) (.cons (.dat (.slice (.int .i64))) (.cons (.dat (.int .i64)) (.cons (.dat .str) (.cons (.dat .str) (.cons (.dat (.int .i64)) .nil)))))))) (.cons (.agg (.cons (.dat (.slice (.int .i64))) (.cons (.dat (.slice (.slice (.int .i64)))) (.cons (.dat (.slice (.int .i64))) (.cons (.dat (.int .i64)) (.cons (.dat .str) (.cons (.dat .str) (.cons (.dat (.int .i64)) .nil)))))))) .nil))

noncomputable def I_lw_eqConsole : List (Nat × OSh) := []

noncomputable def K_lw_eqConsole : RetK := { acts := [], res := [.tmp 4], sh := (.cons (.dat .bool) .nil), obs := [], pins := [] }

noncomputable def D_lw_eqConsole : FD where
  A := A_lw_eqConsole
  ins := I_lw_eqConsole
  lend := []
  R := Bool
  F := fun x => F_lw_eqConsole x.1.1.1 x.1.1.2.1 x.1.1.2.2.1 x.1.1.2.2.2.1 x.1.1.2.2.2.2.1 x.1.1.2.2.2.2.2.1 x.1.1.2.2.2.2.2.2.1 x.1.2.1.1 x.1.2.1.2.1 x.1.2.1.2.2.1 x.1.2.1.2.2.2.1 x.1.2.1.2.2.2.2.1 x.1.2.1.2.2.2.2.2.1 x.1.2.1.2.2.2.2.2.2.1
  emb := fun r => ([.dat .bool r], [])

noncomputable def E_lw_eqConsole : Env := envOf [(26, D_lw_eqAtlas), (91, D_lw_eqLog)]

noncomputable def Z_lw_eqConsole : Nat → Nat → List Nat := fun _ _ => []

noncomputable def O_lw_eqConsole : List (Nat × LD) := []

noncomputable def C_lw_eqConsole : Code := (f41.body).getD .skip

/-! ### 42 loop.example/g01110/laws.markConsole -/

noncomputable def T_lw_markConsole (a4_ : Int) (_a5_ : List UInt8) (_a6_ : List UInt8) (_a7_ : Int) (a8_ : Int) (a1_ : List (Int)) (a2_ : List (List (Int))) (a3_ : List (Int)) : Tr ((Int) × ((List (Int)) × ((List (List (Int))) × (List (Int))))) :=
  .c ((Int) × ((List (Int)) × ((List (List (Int))) × (List (Int))))) (F_lw_markAtlas a4_ a8_ a1_ a2_ a3_) fun r1_ =>
  .l (r1_.1, (r1_.2.1, (r1_.2.2.1, r1_.2.2.2)))

noncomputable def F_lw_markConsole (a4_ : Int) (a5_ : List UInt8) (a6_ : List UInt8) (a7_ : Int) (a8_ : Int) (a1_ : List (Int)) (a2_ : List (List (Int))) (a3_ : List (Int)) : Option ((Int) × ((List (Int)) × ((List (List (Int))) × (List (Int))))) := (T_lw_markConsole a4_ a5_ a6_ a7_ a8_ a1_ a2_ a3_).ev

noncomputable def A_lw_markConsole : Sh := (.cons (.agg (.cons (.arr 64) (.cons (.arr 65) (.cons (.arr 66) (.cons (.dat (.int .i64)) (.cons (.dat .str) (.cons (.dat .str) (.cons (.dat (.int .i64)) .nil)))))))) (.cons (.dat (.int .i64)) .nil))

noncomputable def I_lw_markConsole : List (Nat × OSh) := [(64, .arr 3 (.int .i64)), (65, .rows 29 3 (.int .i64)), (66, .arr 3 (.int .i64))]

noncomputable def K_lw_markConsole : RetK := { acts := [], res := [.tmp 4], sh := (.cons (.dat (.int .i64)) .nil), obs := [(64, .arr 3 (.int .i64)), (65, .rows 29 3 (.int .i64)), (66, .arr 3 (.int .i64))], pins := [(0, 1, 64), (0, 2, 65), (0, 3, 66)] }

noncomputable def D_lw_markConsole : FD where
  A := A_lw_markConsole
  ins := I_lw_markConsole
  lend := [.comp 0 0, .comp 0 1, .comp 0 2]
  R := (Int) × ((List (Int)) × ((List (List (Int))) × (List (Int))))
  F := fun x => F_lw_markConsole x.1.1.2.2.2.1 x.1.1.2.2.2.2.1 x.1.1.2.2.2.2.2.1 x.1.1.2.2.2.2.2.2.1 x.1.2.1 x.2.1 x.2.2.1 x.2.2.2.1
  emb := fun r => ([.dat (.int .i64) r.1], [(64, .arr 3 (.int .i64) r.2.1), (65, .rows 29 3 (.int .i64) r.2.2.1 none), (66, .arr 3 (.int .i64) r.2.2.2)])

noncomputable def E_lw_markConsole : Env := envOf [(29, D_lw_markAtlas)]

noncomputable def Z_lw_markConsole : Nat → Nat → List Nat := fun _ _ => []

noncomputable def O_lw_markConsole : List (Nat × LD) := []

noncomputable def C_lw_markConsole : Code := (f42.body).getD .skip

/-! ### 43 loop.example/g01110/laws.heldConsole -/

noncomputable def T_lw_heldConsole (a1_ : List (Int)) (a2_ : List (List (Int))) (a3_ : List (Int)) (a4_ : Int) (_a5_ : List UInt8) (_a6_ : List UInt8) (_a7_ : Int) (a8_ : Int) : Tr (Int) :=
  .c (Int) (F_lw_heldAtlas a1_ a2_ a3_ a4_ a8_) fun r1_ =>
  .t (decide (r1_ < (0 : Int)))
    (.l (-1 : Int))
    (.l r1_)

noncomputable def F_lw_heldConsole (a1_ : List (Int)) (a2_ : List (List (Int))) (a3_ : List (Int)) (a4_ : Int) (a5_ : List UInt8) (a6_ : List UInt8) (a7_ : Int) (a8_ : Int) : Option (Int) := (T_lw_heldConsole a1_ a2_ a3_ a4_ a5_ a6_ a7_ a8_).ev

noncomputable def A_lw_heldConsole : Sh := (.cons (.agg (.cons (.dat (.slice (.int .i64))) (.cons (.dat (.slice (.slice (.int .i64)))) (.cons (.dat (.slice (.int .i64))) (.cons (.dat (.int .i64)) (.cons (.dat .str) (.cons (.dat .str) (.cons (.dat (.int .i64)) .nil)))))))) (.cons (.dat (.int .i64)) .nil))

noncomputable def I_lw_heldConsole : List (Nat × OSh) := []

noncomputable def K_lw_heldConsole : RetK := { acts := [], res := [.tmp 4], sh := (.cons (.dat (.int .i64)) .nil), obs := [], pins := [] }

noncomputable def D_lw_heldConsole : FD where
  A := A_lw_heldConsole
  ins := I_lw_heldConsole
  lend := []
  R := Int
  F := fun x => F_lw_heldConsole x.1.1.1 x.1.1.2.1 x.1.1.2.2.1 x.1.1.2.2.2.1 x.1.1.2.2.2.2.1 x.1.1.2.2.2.2.2.1 x.1.1.2.2.2.2.2.2.1 x.1.2.1
  emb := fun r => ([.dat (.int .i64) r], [])

noncomputable def E_lw_heldConsole : Env := envOf [(30, D_lw_heldAtlas)]

noncomputable def Z_lw_heldConsole : Nat → Nat → List Nat := fun _ _ => []

noncomputable def O_lw_heldConsole : List (Nat × LD) := []

noncomputable def C_lw_heldConsole : Code := (f43.body).getD .skip

/-! ### 7 loop.example/g01110/laws.FnExactNewConsole -/

noncomputable def T_lw_FnExactNewConsole (a1_ : List (Int)) (a2_ : List (List (Int))) (a3_ : List (Int)) (a4_ : Int) : Tr (Bool) :=
  .c (Int) (F_lw_szAtlas a1_ a2_ a3_ a4_ (1048576 : Int)) fun r1_ =>
  .t (decide (r1_ < (0 : Int)))
    (.l true)
    (.c ((Int) × ((List (Int)) × ((List (List (Int))) × (List (Int))))) (F_lw_toAtlas a1_ a2_ a3_ a4_) fun r2_ =>
      .c ((Int) × ((List UInt8) × ((List UInt8) × ((Int) × ((Bool) × ((List (Int)) × ((List (List (Int))) × (List (Int))))))))) (F_sp_NewConsole r2_.2.1 r2_.2.2.1 r2_.2.2.2 r2_.1) fun r3_ =>
      .c ((Int) × ((List (Int)) × ((List (List (Int))) × (List (Int))))) (F_lw_toAtlas a1_ a2_ a3_ a4_) fun r4_ =>
      .c ((Int) × ((List UInt8) × ((List UInt8) × ((Int) × ((Bool) × ((List (Int)) × ((List (List (Int))) × (List (Int))))))))) (F_im_NewConsole r4_.2.1 r4_.2.2.1 r4_.2.2.2 r4_.1) fun r5_ =>
      .c (Bool) (F_lw_eqConsole r5_.2.2.2.2.2.1 r5_.2.2.2.2.2.2.1 r5_.2.2.2.2.2.2.2 r5_.1 r5_.2.1 r5_.2.2.1 r5_.2.2.2.1 r3_.2.2.2.2.2.1 r3_.2.2.2.2.2.2.1 r3_.2.2.2.2.2.2.2 r3_.1 r3_.2.1 r3_.2.2.1 r3_.2.2.2.1) fun r6_ =>
      .t (!r6_)
        (.l false)
        (.t (!(r5_.2.2.2.2.1 == r3_.2.2.2.2.1))
            (.l false)
            (.c ((Int) × ((List (Int)) × ((List (List (Int))) × (List (Int))))) (F_lw_toAtlas a1_ a2_ a3_ a4_) fun r7_ =>
              .c (Bool) (F_lw_eqAtlas r4_.2.1 r4_.2.2.1 r4_.2.2.2 r4_.1 r7_.2.1 r7_.2.2.1 r7_.2.2.2 r7_.1) fun r8_ =>
              .t (!r8_)
                (.l false)
                (.c ((Int) × ((List (Int)) × ((List (List (Int))) × (List (Int))))) (F_lw_markAtlas r4_.1 (1 : Int) r4_.2.1 r4_.2.2.1 r4_.2.2.2) fun r9_ =>
                  .t (decide (r9_.1 < (0 : Int)))
                    (.l false)
                    (.c (Bool) (F_lw_eqConsole r5_.2.2.2.2.2.1 r5_.2.2.2.2.2.2.1 r5_.2.2.2.2.2.2.2 r5_.1 r5_.2.1 r5_.2.2.1 r5_.2.2.2.1 r3_.2.2.2.2.2.1 r3_.2.2.2.2.2.2.1 r3_.2.2.2.2.2.2.2 r3_.1 r3_.2.1 r3_.2.2.1 r3_.2.2.2.1) fun r10_ =>
                      .t (!r10_)
                        (.l false)
                        (.t (!(r5_.2.2.2.2.1 == r3_.2.2.2.2.1))
                            (.l false)
                            (.c ((Int) × ((List (Int)) × ((List (List (Int))) × (List (Int))))) (F_lw_markConsole r5_.1 r5_.2.1 r5_.2.2.1 r5_.2.2.2.1 (1 : Int) r5_.2.2.2.2.2.1 r5_.2.2.2.2.2.2.1 r5_.2.2.2.2.2.2.2) fun r11_ =>
                              .c (Int) (F_lw_heldConsole r11_.2.1 r11_.2.2.1 r11_.2.2.2 r5_.1 r5_.2.1 r5_.2.2.1 r5_.2.2.2.1 (1 : Int)) fun r12_ =>
                              .t (decide (r12_ < (0 : Int)))
                                (.l false)
                                (.t (r12_ != r11_.1)
                                    (.l false)
                                    (.c ((Int) × ((List (Int)) × ((List (List (Int))) × (List (Int))))) (F_lw_toAtlas a1_ a2_ a3_ a4_) fun r13_ =>
                                      .c ((Int) × ((List UInt8) × ((List UInt8) × ((Int) × ((Bool) × ((List (Int)) × ((List (List (Int))) × (List (Int))))))))) (F_im_NewConsole r13_.2.1 r13_.2.2.1 r13_.2.2.2 r13_.1) fun r14_ =>
                                      .c (Bool) (F_lw_eqConsole r14_.2.2.2.2.2.1 r14_.2.2.2.2.2.2.1 r14_.2.2.2.2.2.2.2 r14_.1 r14_.2.1 r14_.2.2.1 r14_.2.2.2.1 r3_.2.2.2.2.2.1 r3_.2.2.2.2.2.2.1 r3_.2.2.2.2.2.2.2 r3_.1 r3_.2.1 r3_.2.2.1 r3_.2.2.2.1) fun r15_ =>
                                      .t (!r15_)
                                        (.l false)
                                        (.t (!(r14_.2.2.2.2.1 == r3_.2.2.2.2.1))
                                            (.l false)
                                            (.c (Int) (F_lw_heldConsole r11_.2.1 r11_.2.2.1 r11_.2.2.2 r5_.1 r5_.2.1 r5_.2.2.1 r5_.2.2.2.1 (1 : Int)) fun r16_ =>
                                              .t (decide (r16_ < (0 : Int)))
                                                (.l false)
                                                (.t (r16_ != r11_.1)
                                                    (.l false)
                                                    (.l true)))))))))))))

noncomputable def F_lw_FnExactNewConsole (a1_ : List (Int)) (a2_ : List (List (Int))) (a3_ : List (Int)) (a4_ : Int) : Option (Bool) := (T_lw_FnExactNewConsole a1_ a2_ a3_ a4_).ev

noncomputable def A_lw_FnExactNewConsole : Sh := (.cons (.agg (.cons (.dat (.slice (.int .i64))) (.cons (.dat (.slice (.slice (.int .i64)))) (.cons (.dat (.slice (.int .i64))) (.cons (.dat (.int .i64)) .nil))))) .nil)

noncomputable def I_lw_FnExactNewConsole : List (Nat × OSh) := []

noncomputable def K_lw_FnExactNewConsole : RetK := { acts := [], res := [.tmp 2], sh := (.cons (.dat .bool) .nil), obs := [], pins := [] }

noncomputable def D_lw_FnExactNewConsole : FD where
  A := A_lw_FnExactNewConsole
  ins := I_lw_FnExactNewConsole
  lend := []
  R := Bool
  F := fun x => F_lw_FnExactNewConsole x.1.1.1 x.1.1.2.1 x.1.1.2.2.1 x.1.1.2.2.2.1
  emb := fun r => ([.dat .bool r], [])

noncomputable def E_lw_FnExactNewConsole : Env := envOf [(31, D_lw_szAtlas), (33, D_lw_toAtlas), (39, D_sp_NewConsole), (40, D_im_NewConsole), (41, D_lw_eqConsole), (26, D_lw_eqAtlas), (29, D_lw_markAtlas), (42, D_lw_markConsole), (43, D_lw_heldConsole)]

noncomputable def Z_lw_FnExactNewConsole : Nat → Nat → List Nat := fun _ _ => []

noncomputable def O_lw_FnExactNewConsole : List (Nat × LD) := []

noncomputable def C_lw_FnExactNewConsole : Code := (f7.body).getD .skip
end Go.Proofs.Ythkafleokepjeaa
