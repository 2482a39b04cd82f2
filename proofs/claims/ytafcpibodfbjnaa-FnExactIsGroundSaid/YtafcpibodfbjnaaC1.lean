import Derived.Test.YtafcpibodfbjnaaB27
import Derived.Test.YtafcpibodfbjnaaProg
namespace Go.Proofs.Ytafcpibodfbjnaa
open Go.Proofs.Try

noncomputable def tabl : List (Nat × TD) := [(3, .sc (.int .i64)), (4, .sc .bool), (22, .sl 27 (.slice (.int .i64)) 24), (27, .sl 3 (.int .i64) 8), (44, .st (.pair (.slice (.int .i64)) (.slice (.slice (.int .i64)))) [(27, (.slice (.int .i64))), (22, (.slice (.slice (.int .i64))))]), (46, .st (.pair (.pair (.slice (.int .i64)) (.slice (.slice (.int .i64)))) (.pair (.slice (.int .i64)) (.int .i64))) [(44, (.pair (.slice (.int .i64)) (.slice (.slice (.int .i64))))), (27, (.slice (.int .i64))), (3, (.int .i64))]), (49, .st (.pair (.slice (.int .i64)) (.slice (.slice (.int .i64)))) [(27, (.slice (.int .i64))), (22, (.slice (.slice (.int .i64))))]), (51, .st (.pair (.pair (.slice (.int .i64)) (.slice (.slice (.int .i64)))) (.pair (.slice (.int .i64)) (.int .i64))) [(49, (.pair (.slice (.int .i64)) (.slice (.slice (.int .i64))))), (27, (.slice (.int .i64))), (3, (.int .i64))])]

noncomputable def tt : Nat → TD := fun i => match look tabl i with
  | some d => d
  | none => .no

/-! ### 34 loop.example/g01110/laws.szIntS -/

noncomputable def T_lw_szIntS (a1_ : List (Int)) (a2_ : Int) : Tr (Int) :=
  .t (decide ((IntKind.wrap .i64 (a2_ - ((List.length a1_ : Nat) : Int))) < (0 : Int)))
    (.l (-1 : Int))
    (.l (IntKind.wrap .i64 (a2_ - ((List.length a1_ : Nat) : Int))))

noncomputable def F_lw_szIntS (a1_ : List (Int)) (a2_ : Int) : Option (Int) := (T_lw_szIntS a1_ a2_).ev

noncomputable def A_lw_szIntS : Sh := (.cons (.dat (.slice (.int .i64))) (.cons (.dat (.int .i64)) .nil))

noncomputable def K_lw_szIntS : RetK := { acts := [], res := [.tmp 4], sh := (.cons (.dat (.int .i64)) .nil), obs := [] }

noncomputable def D_lw_szIntS : FD where
  A := A_lw_szIntS
  R := Int
  F := fun x => F_lw_szIntS x.1 x.2.1
  emb := fun r => ([.dat (.int .i64) r], [])

noncomputable def E_lw_szIntS : Env := envOf []

noncomputable def Z_lw_szIntS : Nat → Nat → List Nat := fun _ _ => []

noncomputable def O_lw_szIntS : List (Nat × LD) := []

noncomputable def C_lw_szIntS : Code := (f34.body).getD .skip

/-! ### 10 loop.example/g01110/laws.szIntSS -/

noncomputable def S_lw_szIntSS_0 (k : List (List (Int))) (v : (Int) × (Int)) : Tr (((Int) × (Int)) ⊕ ((Int) ⊕ (Unit))) :=
  .t (decide (v.2 < ((List.length k : Nat) : Int)))
    (.g (inR v.2 (List.length k)) <|
      .c (Int) (F_lw_szIntS (List.getD k (Int.toNat v.2) ([] : List (Int))) v.1) fun r4_ =>
      .t (decide (r4_ < (0 : Int)))
        (.l (.inr (.inr ())))
        (.l (.inl (r4_, (IntKind.wrap .i64 (v.2 + (1 : Int)))))))
    (.l (.inr (.inl v.1)))

noncomputable def L_lw_szIntSS_0 (k : List (List (Int))) (v : (Int) × (Int)) : Option ((Int) ⊕ (Unit)) := iter (fun v => (S_lw_szIntSS_0 k v).ev) v

noncomputable def DL_lw_szIntSS_0 : LD where
  head := { acts := [], S := { slots := [0, 1, 5], sh := (.cons (.dat (.slice (.slice (.int .i64)))) (.cons (.dat (.int .i64)) (.cons (.dat (.int .i64)) .nil))), obs := [] } }
  exits := [(0, { acts := [], S := { slots := [1], sh := (.cons (.dat (.int .i64)) .nil), obs := [] } })]
  rets := { acts := [], S := { slots := [4], sh := (.cons (.dat (.int .i64)) .nil), obs := [] } }
  K := List (List (Int))
  V := (Int) × (Int)
  R := (Int) ⊕ (Unit)
  join := fun k v => ((k, (v.1, (v.2, ()))), ())
  sk := fun t => t.1.1
  sv := fun t => (t.1.2.1, t.1.2.2.1)
  step := S_lw_szIntSS_0
  leaf := fun _ r => .s (Int) (Unit) r (fun a => .l (.exit 0 (mkSt ({ slots := [1], sh := (.cons (.dat (.int .i64)) .nil), obs := [] }) ((a, ()), ())))) (fun _ => .l (.ret (mkSt ({ slots := [4], sh := (.cons (.dat (.int .i64)) .nil), obs := [] }) (((-1 : Int), ()), ()))))

noncomputable def T_lw_szIntSS (a1_ : List (List (Int))) (a2_ : Int) : Tr (Int) :=
  .t (decide ((IntKind.wrap .i64 (a2_ - ((List.length a1_ : Nat) : Int))) < (0 : Int)))
    (.l (-1 : Int))
    (.c ((Int) ⊕ (Unit)) (L_lw_szIntSS_0 a1_ ((IntKind.wrap .i64 (a2_ - ((List.length a1_ : Nat) : Int))), (0 : Int))) fun r7_ =>
      .s (Int) (Unit) r7_
        (fun r8_ => .l r8_)
        (fun _ => .l (-1 : Int)))

noncomputable def F_lw_szIntSS (a1_ : List (List (Int))) (a2_ : Int) : Option (Int) := (T_lw_szIntSS a1_ a2_).ev

noncomputable def A_lw_szIntSS : Sh := (.cons (.dat (.slice (.slice (.int .i64)))) (.cons (.dat (.int .i64)) .nil))

noncomputable def K_lw_szIntSS : RetK := { acts := [], res := [.tmp 4], sh := (.cons (.dat (.int .i64)) .nil), obs := [] }

noncomputable def D_lw_szIntSS : FD where
  A := A_lw_szIntSS
  R := Int
  F := fun x => F_lw_szIntSS x.1 x.2.1
  emb := fun r => ([.dat (.int .i64) r], [])

noncomputable def E_lw_szIntSS : Env := envOf [(34, D_lw_szIntS)]

noncomputable def Z_lw_szIntSS : Nat → Nat → List Nat := fun _ _ => []

noncomputable def O_lw_szIntSS : List (Nat × LD) := [(0, DL_lw_szIntSS_0)]

noncomputable def C_lw_szIntSS : Code := (f10.body).getD .skip

/-! ### 16 loop.example/g01110/laws.toIntS -/

noncomputable def S_lw_toIntS_0 (k : List (Int)) (v : (Int) × (List (Int))) : Tr (((Int) × (List (Int))) ⊕ (List (Int))) :=
  .t (decide (v.1 < ((List.length k : Nat) : Int)))
    (.g (inR v.1 (List.length k)) <|
      .g (inR v.1 (List.length v.2)) <|
      .g (decide ((Int.toNat v.1) < List.length v.2)) <|
      .l (.inl ((IntKind.wrap .i64 (v.1 + (1 : Int))), (List.set v.2 (Int.toNat v.1) (List.getD k (Int.toNat v.1) (0 : Int))))))
    (.l (.inr v.2))

noncomputable def L_lw_toIntS_0 (k : List (Int)) (v : (Int) × (List (Int))) : Option (List (Int)) := iter (fun v => (S_lw_toIntS_0 k v).ev) v

noncomputable def DL_lw_toIntS_0 : LD where
  head := { acts := [], S := { slots := [0, 3, 4], sh := (.cons (.dat (.slice (.int .i64))) (.cons (.arr 7) (.cons (.dat (.int .i64)) .nil))), obs := [(7, .arr 3 (.int .i64))] } }
  exits := [(0, { acts := [], S := { slots := [3], sh := (.cons (.arr 7) .nil), obs := [(7, .arr 3 (.int .i64))] } })]
  rets := { acts := [], S := { slots := [], sh := .nil, obs := [] } }
  K := List (Int)
  V := (Int) × (List (Int))
  R := List (Int)
  join := fun k v => ((k, ((), (v.1, ()))), (v.2, ()))
  sk := fun t => t.1.1
  sv := fun t => (t.1.2.2.1, t.2.1)
  step := S_lw_toIntS_0
  leaf := fun _ r => .l (.exit 0 (mkSt ({ slots := [3], sh := (.cons (.arr 7) .nil), obs := [(7, .arr 3 (.int .i64))] }) (((), ()), (r, ()))))

noncomputable def T_lw_toIntS (a1_ : List (Int)) : Tr (List (Int)) :=
  .g (decide ((0 : Int) ≤ ((List.length a1_ : Nat) : Int)) && decide (((List.length a1_ : Nat) : Int) ≤ ((List.length a1_ : Nat) : Int)) && decide (((8 : Nat) : Int) * ((List.length a1_ : Nat) : Int) ≤ 281474976710656)) <|
  .c (List (Int)) (L_lw_toIntS_0 a1_ ((0 : Int), (List.replicate (Int.toNat ((List.length a1_ : Nat) : Int)) (0 : Int)))) fun r5_ =>
  .l r5_

noncomputable def F_lw_toIntS (a1_ : List (Int)) : Option (List (Int)) := (T_lw_toIntS a1_).ev

noncomputable def A_lw_toIntS : Sh := (.cons (.dat (.slice (.int .i64))) .nil)

noncomputable def K_lw_toIntS : RetK := { acts := [.ren 7 0], res := [.tmp 2], sh := (.cons (.arr 0) .nil), obs := [(0, .arr 3 (.int .i64))] }

noncomputable def D_lw_toIntS : FD where
  A := A_lw_toIntS
  R := List (Int)
  F := fun x => F_lw_toIntS x.1
  emb := fun r => ([.arr 0], [(0, .arr 3 (.int .i64) r)])

noncomputable def E_lw_toIntS : Env := envOf []

noncomputable def Z_lw_toIntS : Nat → Nat → List Nat := fun _ _ => []

noncomputable def O_lw_toIntS : List (Nat × LD) := [(0, DL_lw_toIntS_0)]

noncomputable def C_lw_toIntS : Code := (f16.body).getD .skip

/-! ### 12 loop.example/g01110/laws.toIntSS -/

noncomputable def S_lw_toIntSS_0 (k : List (List (Int))) (v : (Int) × (List (List (Int)))) : Tr (((Int) × (List (List (Int)))) ⊕ (List (List (Int)))) :=
  .t (decide (v.1 < ((List.length k : Nat) : Int)))
    (.g (inR v.1 (List.length k)) <|
      .c (List (Int)) (F_lw_toIntS (List.getD k (Int.toNat v.1) ([] : List (Int)))) fun r4_ =>
      .g (inR v.1 (List.length v.2)) <|
      .g (decide ((Int.toNat v.1) < List.length v.2)) <|
      .l (.inl ((IntKind.wrap .i64 (v.1 + (1 : Int))), (List.set v.2 (Int.toNat v.1) r4_))))
    (.l (.inr v.2))

noncomputable def L_lw_toIntSS_0 (k : List (List (Int))) (v : (Int) × (List (List (Int)))) : Option (List (List (Int))) := iter (fun v => (S_lw_toIntSS_0 k v).ev) v

noncomputable def DL_lw_toIntSS_0 : LD where
  head := { acts := [], S := { slots := [0, 3, 4], sh := (.cons (.dat (.slice (.slice (.int .i64)))) (.cons (.arr 7) (.cons (.dat (.int .i64)) .nil))), obs := [(7, .arr 27 (.slice (.int .i64)))] } }
  exits := [(0, { acts := [], S := { slots := [3], sh := (.cons (.arr 7) .nil), obs := [(7, .arr 27 (.slice (.int .i64)))] } })]
  rets := { acts := [], S := { slots := [], sh := .nil, obs := [] } }
  K := List (List (Int))
  V := (Int) × (List (List (Int)))
  R := List (List (Int))
  join := fun k v => ((k, ((), (v.1, ()))), (v.2, ()))
  sk := fun t => t.1.1
  sv := fun t => (t.1.2.2.1, t.2.1)
  step := S_lw_toIntSS_0
  leaf := fun _ r => .l (.exit 0 (mkSt ({ slots := [3], sh := (.cons (.arr 7) .nil), obs := [(7, .arr 27 (.slice (.int .i64)))] }) (((), ()), (r, ()))))

noncomputable def T_lw_toIntSS (a1_ : List (List (Int))) : Tr (List (List (Int))) :=
  .g (decide ((0 : Int) ≤ ((List.length a1_ : Nat) : Int)) && decide (((List.length a1_ : Nat) : Int) ≤ ((List.length a1_ : Nat) : Int)) && decide (((24 : Nat) : Int) * ((List.length a1_ : Nat) : Int) ≤ 281474976710656)) <|
  .c (List (List (Int))) (L_lw_toIntSS_0 a1_ ((0 : Int), (List.replicate (Int.toNat ((List.length a1_ : Nat) : Int)) ([] : List (Int))))) fun r6_ =>
  .l r6_

noncomputable def F_lw_toIntSS (a1_ : List (List (Int))) : Option (List (List (Int))) := (T_lw_toIntSS a1_).ev

noncomputable def A_lw_toIntSS : Sh := (.cons (.dat (.slice (.slice (.int .i64)))) .nil)

noncomputable def K_lw_toIntSS : RetK := { acts := [.ren 7 0], res := [.tmp 2], sh := (.cons (.arr 0) .nil), obs := [(0, .arr 27 (.slice (.int .i64)))] }

noncomputable def D_lw_toIntSS : FD where
  A := A_lw_toIntSS
  R := List (List (Int))
  F := fun x => F_lw_toIntSS x.1
  emb := fun r => ([.arr 0], [(0, .arr 27 (.slice (.int .i64)) r)])

noncomputable def E_lw_toIntSS : Env := envOf [(16, D_lw_toIntS)]

noncomputable def Z_lw_toIntSS : Nat → Nat → List Nat := fun r i => match look [(5, [(8, [20])])] r with
  | some l => (look l i).getD []
  | none => []

noncomputable def O_lw_toIntSS : List (Nat × LD) := [(0, DL_lw_toIntSS_0)]

noncomputable def C_lw_toIntSS : Code := (f12.body).getD .skip

/-! ### 62 loop.example/g01110/spec.l1In -/

noncomputable def T_sp_l1In (a1_ : Int) (a2_ : Int) (a3_ : Int) : Tr (Bool) :=
  .t (decide (a2_ ≤ a1_))
    (.l (decide (a1_ ≤ a3_)))
    (.l false)

noncomputable def F_sp_l1In (a1_ : Int) (a2_ : Int) (a3_ : Int) : Option (Bool) := (T_sp_l1In a1_ a2_ a3_).ev

noncomputable def A_sp_l1In : Sh := (.cons (.dat (.int .i64)) (.cons (.dat (.int .i64)) (.cons (.dat (.int .i64)) .nil)))

noncomputable def K_sp_l1In : RetK := { acts := [], res := [.tmp 6], sh := (.cons (.dat .bool) .nil), obs := [] }

noncomputable def D_sp_l1In : FD where
  A := A_sp_l1In
  R := Bool
  F := fun x => F_sp_l1In x.1 x.2.1 x.2.2.1
  emb := fun r => ([.dat .bool r], [])

noncomputable def E_sp_l1In : Env := envOf []

noncomputable def Z_sp_l1In : Nat → Nat → List Nat := fun _ _ => []

noncomputable def O_sp_l1In : List (Nat × LD) := []

noncomputable def C_sp_l1In : Code := (f62.body).getD .skip

/-! ### 59 loop.example/g01110/spec.l2Row -/

noncomputable def S_sp_l2Row_0 (k : (List (Int)) × ((Int) × (Int))) (v : Int) : Tr ((Int) ⊕ ((Unit) ⊕ (Unit))) :=
  .t (decide (v < ((List.length k.1 : Nat) : Int)))
    (.g (inR v (List.length k.1)) <|
      .c (Bool) (F_sp_l1In (List.getD k.1 (Int.toNat v) (0 : Int)) (0 : Int) k.2.2) fun r5_ =>
      .t (!r5_)
        (.l (.inr (.inr ())))
        (.l (.inl (IntKind.wrap .i64 (v + (1 : Int))))))
    (.l (.inr (.inl ())))

noncomputable def L_sp_l2Row_0 (k : (List (Int)) × ((Int) × (Int))) (v : Int) : Option ((Unit) ⊕ (Unit)) := iter (fun v => (S_sp_l2Row_0 k v).ev) v

noncomputable def DL_sp_l2Row_0 : LD where
  head := { acts := [], S := { slots := [0, 1, 2, 7], sh := (.cons (.dat (.slice (.int .i64))) (.cons (.dat (.int .i64)) (.cons (.dat (.int .i64)) (.cons (.dat (.int .i64)) .nil)))), obs := [] } }
  exits := [(0, { acts := [], S := { slots := [0, 1], sh := (.cons (.dat (.slice (.int .i64))) (.cons (.dat (.int .i64)) .nil)), obs := [] } })]
  rets := { acts := [], S := { slots := [6], sh := (.cons (.dat .bool) .nil), obs := [] } }
  K := (List (Int)) × ((Int) × (Int))
  V := Int
  R := (Unit) ⊕ (Unit)
  join := fun k v => ((k.1, (k.2.1, (k.2.2, (v, ())))), ())
  sk := fun t => (t.1.1, (t.1.2.1, t.1.2.2.1))
  sv := fun t => t.1.2.2.2.1
  step := S_sp_l2Row_0
  leaf := fun k r => .s (Unit) (Unit) r (fun _ => .l (.exit 0 (mkSt ({ slots := [0, 1], sh := (.cons (.dat (.slice (.int .i64))) (.cons (.dat (.int .i64)) .nil)), obs := [] }) ((k.1, (k.2.1, ())), ())))) (fun _ => .l (.ret (mkSt ({ slots := [6], sh := (.cons (.dat .bool) .nil), obs := [] }) ((false, ()), ()))))

noncomputable def T_sp_l2Row (a1_ : List (Int)) (a2_ : Int) (a3_ : Int) : Tr (Bool) :=
  .c ((Unit) ⊕ (Unit)) (L_sp_l2Row_0 (a1_, (a2_, a3_)) (0 : Int)) fun r9_ =>
  .s (Unit) (Unit) r9_
    (fun _ => .l (((List.length a1_ : Nat) : Int) == a2_))
    (fun _ => .l false)

noncomputable def F_sp_l2Row (a1_ : List (Int)) (a2_ : Int) (a3_ : Int) : Option (Bool) := (T_sp_l2Row a1_ a2_ a3_).ev

noncomputable def A_sp_l2Row : Sh := (.cons (.dat (.slice (.int .i64))) (.cons (.dat (.int .i64)) (.cons (.dat (.int .i64)) .nil)))

noncomputable def K_sp_l2Row : RetK := { acts := [], res := [.tmp 6], sh := (.cons (.dat .bool) .nil), obs := [] }

noncomputable def D_sp_l2Row : FD where
  A := A_sp_l2Row
  R := Bool
  F := fun x => F_sp_l2Row x.1 x.2.1 x.2.2.1
  emb := fun r => ([.dat .bool r], [])

noncomputable def E_sp_l2Row : Env := envOf [(62, D_sp_l1In)]

noncomputable def Z_sp_l2Row : Nat → Nat → List Nat := fun _ _ => []

noncomputable def O_sp_l2Row : List (Nat × LD) := [(0, DL_sp_l2Row_0)]

noncomputable def C_sp_l2Row : Code := (f59.body).getD .skip

/-! ### 35 loop.example/g01110/spec.l11Ground -/

noncomputable def S_sp_l11Ground_2 (k : (List (List (Int))) × ((Int) × (Int))) (v : Int) : Tr ((Int) ⊕ ((Unit) ⊕ (Unit))) :=
  .t (decide (v < k.2.2))
    (.g (inR k.2.2 (List.length k.1)) <|
      .g (inR v (List.length (List.getD k.1 (Int.toNat k.2.2) ([] : List (Int))))) <|
      .g (inR v (List.length k.1)) <|
      .g (inR k.2.2 (List.length (List.getD k.1 (Int.toNat v) ([] : List (Int))))) <|
      .t ((List.getD (List.getD k.1 (Int.toNat k.2.2) ([] : List (Int))) (Int.toNat v) (0 : Int)) != (List.getD (List.getD k.1 (Int.toNat v) ([] : List (Int))) (Int.toNat k.2.2) (0 : Int)))
        (.l (.inr (.inr ())))
        (.l (.inl (IntKind.wrap .i64 (v + (1 : Int))))))
    (.l (.inr (.inl ())))

noncomputable def L_sp_l11Ground_2 (k : (List (List (Int))) × ((Int) × (Int))) (v : Int) : Option ((Unit) ⊕ (Unit)) := iter (fun v => (S_sp_l11Ground_2 k v).ev) v

noncomputable def DL_sp_l11Ground_2 : LD where
  head := { acts := [], S := { slots := [0, 3, 4, 5], sh := (.cons (.dat (.slice (.slice (.int .i64)))) (.cons (.dat (.int .i64)) (.cons (.dat (.int .i64)) (.cons (.dat (.int .i64)) .nil)))), obs := [] } }
  exits := [(2, { acts := [], S := { slots := [0, 3, 4], sh := (.cons (.dat (.slice (.slice (.int .i64)))) (.cons (.dat (.int .i64)) (.cons (.dat (.int .i64)) .nil))), obs := [] } })]
  rets := { acts := [], S := { slots := [2], sh := (.cons (.dat .bool) .nil), obs := [] } }
  K := (List (List (Int))) × ((Int) × (Int))
  V := Int
  R := (Unit) ⊕ (Unit)
  join := fun k v => ((k.1, (k.2.1, (k.2.2, (v, ())))), ())
  sk := fun t => (t.1.1, (t.1.2.1, t.1.2.2.1))
  sv := fun t => t.1.2.2.2.1
  step := S_sp_l11Ground_2
  leaf := fun k r => .s (Unit) (Unit) r (fun _ => .l (.exit 2 (mkSt ({ slots := [0, 3, 4], sh := (.cons (.dat (.slice (.slice (.int .i64)))) (.cons (.dat (.int .i64)) (.cons (.dat (.int .i64)) .nil))), obs := [] }) ((k.1, (k.2.1, (k.2.2, ()))), ())))) (fun _ => .l (.ret (mkSt ({ slots := [2], sh := (.cons (.dat .bool) .nil), obs := [] }) ((false, ()), ()))))

noncomputable def S_sp_l11Ground_0 (k : (List (List (Int))) × (Int)) (v : Int) : Tr ((Int) ⊕ ((Unit) ⊕ (Unit))) :=
  .t (decide (v < k.2))
    (.g (inR v (List.length k.1)) <|
      .c (Bool) (F_sp_l2Row (List.getD k.1 (Int.toNat v) ([] : List (Int))) k.2 (99 : Int)) fun r4_ =>
      .t (!r4_)
        (.l (.inr (.inr ())))
        (.g (inR v (List.length k.1)) <|
          .g (inR v (List.length (List.getD k.1 (Int.toNat v) ([] : List (Int))))) <|
          .t ((List.getD (List.getD k.1 (Int.toNat v) ([] : List (Int))) (Int.toNat v) (0 : Int)) != (0 : Int))
            (.l (.inr (.inr ())))
            (.c ((Unit) ⊕ (Unit)) (L_sp_l11Ground_2 (k.1, (k.2, v)) (0 : Int)) fun r13_ =>
              .s (Unit) (Unit) r13_
                (fun _ => .l (.inl (IntKind.wrap .i64 (v + (1 : Int)))))
                (fun _ => .l (.inr (.inr ()))))))
    (.l (.inr (.inl ())))

noncomputable def L_sp_l11Ground_0 (k : (List (List (Int))) × (Int)) (v : Int) : Option ((Unit) ⊕ (Unit)) := iter (fun v => (S_sp_l11Ground_0 k v).ev) v

noncomputable def DL_sp_l11Ground_0 : LD where
  head := { acts := [], S := { slots := [0, 3, 4], sh := (.cons (.dat (.slice (.slice (.int .i64)))) (.cons (.dat (.int .i64)) (.cons (.dat (.int .i64)) .nil))), obs := [] } }
  exits := [(0, { acts := [], S := { slots := [3], sh := (.cons (.dat (.int .i64)) .nil), obs := [] } })]
  rets := { acts := [], S := { slots := [2], sh := (.cons (.dat .bool) .nil), obs := [] } }
  K := (List (List (Int))) × (Int)
  V := Int
  R := (Unit) ⊕ (Unit)
  join := fun k v => ((k.1, (k.2, (v, ()))), ())
  sk := fun t => (t.1.1, t.1.2.1)
  sv := fun t => t.1.2.2.1
  step := S_sp_l11Ground_0
  leaf := fun k r => .s (Unit) (Unit) r (fun _ => .l (.exit 0 (mkSt ({ slots := [3], sh := (.cons (.dat (.int .i64)) .nil), obs := [] }) ((k.2, ()), ())))) (fun _ => .l (.ret (mkSt ({ slots := [2], sh := (.cons (.dat .bool) .nil), obs := [] }) ((false, ()), ()))))

noncomputable def T_sp_l11Ground (a1_ : List (List (Int))) : Tr (Bool) :=
  .c ((Unit) ⊕ (Unit)) (L_sp_l11Ground_0 (a1_, ((List.length a1_ : Nat) : Int)) (0 : Int)) fun r18_ =>
  .s (Unit) (Unit) r18_
    (fun _ => .l (decide (((List.length a1_ : Nat) : Int) ≤ (7 : Int))))
    (fun _ => .l false)

noncomputable def F_sp_l11Ground (a1_ : List (List (Int))) : Option (Bool) := (T_sp_l11Ground a1_).ev

noncomputable def A_sp_l11Ground : Sh := (.cons (.dat (.slice (.slice (.int .i64)))) .nil)

noncomputable def K_sp_l11Ground : RetK := { acts := [], res := [.tmp 2], sh := (.cons (.dat .bool) .nil), obs := [] }

noncomputable def D_sp_l11Ground : FD where
  A := A_sp_l11Ground
  R := Bool
  F := fun x => F_sp_l11Ground x.1
  emb := fun r => ([.dat .bool r], [])

noncomputable def E_sp_l11Ground : Env := envOf [(59, D_sp_l2Row)]

noncomputable def Z_sp_l11Ground : Nat → Nat → List Nat := fun _ _ => []

noncomputable def O_sp_l11Ground : List (Nat × LD) := [(2, DL_sp_l11Ground_2), (0, DL_sp_l11Ground_0)]

noncomputable def C_sp_l11Ground : Code := (f35.body).getD .skip

/-! ### 11 loop.example/g01110/spec.IsGround -/

noncomputable def T_sp_IsGround (a1_ : List (List (Int))) : Tr (Bool) :=
  .c (Bool) (F_sp_l11Ground a1_) fun r1_ =>
  .l r1_

noncomputable def F_sp_IsGround (a1_ : List (List (Int))) : Option (Bool) := (T_sp_IsGround a1_).ev

noncomputable def A_sp_IsGround : Sh := (.cons (.dat (.slice (.slice (.int .i64)))) .nil)

noncomputable def K_sp_IsGround : RetK := { acts := [], res := [.tmp 2], sh := (.cons (.dat .bool) .nil), obs := [] }

noncomputable def D_sp_IsGround : FD where
  A := A_sp_IsGround
  R := Bool
  F := fun x => F_sp_IsGround x.1
  emb := fun r => ([.dat .bool r], [])

noncomputable def E_sp_IsGround : Env := envOf [(35, D_sp_l11Ground)]

noncomputable def Z_sp_IsGround : Nat → Nat → List Nat := fun _ _ => []

noncomputable def O_sp_IsGround : List (Nat × LD) := []

noncomputable def C_sp_IsGround : Code := (f11.body).getD .skip

/-! ### 73 slices.IndexFunc[[]int,int] -/

noncomputable def S_slices_IndexFunc_Sint_int_0 (k : (List (Int)) × (((HL [(.int .i64)] → Option (Bool))) × (Int))) (v : Int) : Tr ((Int) ⊕ ((Unit) ⊕ (Int))) :=
  .t (decide (v < k.2.2))
    (.g (inR v (List.length k.1)) <|
      .c (Bool) (k.2.1 ((List.getD k.1 (Int.toNat v) (0 : Int)), ())) fun r5_ =>
      .t r5_
        (.l (.inr (.inr v)))
        (.l (.inl (IntKind.wrap .i64 (v + (1 : Int))))))
    (.l (.inr (.inl ())))

noncomputable def L_slices_IndexFunc_Sint_int_0 (k : (List (Int)) × (((HL [(.int .i64)] → Option (Bool))) × (Int))) (v : Int) : Option ((Unit) ⊕ (Int)) := iter (fun v => (S_slices_IndexFunc_Sint_int_0 k v).ev) v

noncomputable def DL_slices_IndexFunc_Sint_int_0 : LD where
  head := { acts := [], S := { slots := [0, 1, 7, 8], sh := (.cons (.dat (.slice (.int .i64))) (.cons (.clo [(.int .i64)] .bool) (.cons (.dat (.int .i64)) (.cons (.dat (.int .i64)) .nil)))), obs := [] } }
  exits := [(0, { acts := [], S := { slots := [], sh := .nil, obs := [] } })]
  rets := { acts := [], S := { slots := [4], sh := (.cons (.dat (.int .i64)) .nil), obs := [] } }
  K := (List (Int)) × (((HL [(.int .i64)] → Option (Bool))) × (Int))
  V := Int
  R := (Unit) ⊕ (Int)
  join := fun k v => ((k.1, (k.2.1, (k.2.2, (v, ())))), ())
  sk := fun t => (t.1.1, (t.1.2.1, t.1.2.2.1))
  sv := fun t => t.1.2.2.2.1
  step := S_slices_IndexFunc_Sint_int_0
  leaf := fun _ r => .s (Unit) (Int) r (fun _ => .l (.exit 0 (mkSt ({ slots := [], sh := .nil, obs := [] }) ((), ())))) (fun b => .l (.ret (mkSt ({ slots := [4], sh := (.cons (.dat (.int .i64)) .nil), obs := [] }) ((b, ()), ()))))

noncomputable def T_slices_IndexFunc_Sint_int (a1_ : List (Int)) (a2_ : (HL [(.int .i64)] → Option (Bool))) : Tr (Int) :=
  .c ((Unit) ⊕ (Int)) (L_slices_IndexFunc_Sint_int_0 (a1_, (a2_, ((List.length a1_ : Nat) : Int))) (0 : Int)) fun r7_ =>
  .s (Unit) (Int) r7_
    (fun _ => .l (-1 : Int))
    (fun r9_ => .l r9_)

noncomputable def F_slices_IndexFunc_Sint_int (a1_ : List (Int)) (a2_ : (HL [(.int .i64)] → Option (Bool))) : Option (Int) := (T_slices_IndexFunc_Sint_int a1_ a2_).ev

noncomputable def A_slices_IndexFunc_Sint_int : Sh := (.cons (.dat (.slice (.int .i64))) (.cons (.clo [(.int .i64)] .bool) .nil))

noncomputable def K_slices_IndexFunc_Sint_int : RetK := { acts := [], res := [.tmp 4], sh := (.cons (.dat (.int .i64)) .nil), obs := [] }

noncomputable def D_slices_IndexFunc_Sint_int : FD where
  A := A_slices_IndexFunc_Sint_int
  R := Int
  F := fun x => F_slices_IndexFunc_Sint_int x.1 x.2.1
  emb := fun r => ([.dat (.int .i64) r], [])

noncomputable def E_slices_IndexFunc_Sint_int : Env := envOf []

noncomputable def Z_slices_IndexFunc_Sint_int : Nat → Nat → List Nat := fun _ _ => []

noncomputable def O_slices_IndexFunc_Sint_int : List (Nat × LD) := [(0, DL_slices_IndexFunc_Sint_int_0)]

noncomputable def C_slices_IndexFunc_Sint_int : Code := (f73.body).getD .skip

/-! ### 60 slices.ContainsFunc[[]int,int] -/

noncomputable def T_slices_ContainsFunc_Sint_int (a1_ : List (Int)) (a2_ : (HL [(.int .i64)] → Option (Bool))) : Tr (Bool) :=
  .c (Int) (F_slices_IndexFunc_Sint_int a1_ a2_) fun r1_ =>
  .l (decide ((0 : Int) ≤ r1_))

noncomputable def F_slices_ContainsFunc_Sint_int (a1_ : List (Int)) (a2_ : (HL [(.int .i64)] → Option (Bool))) : Option (Bool) := (T_slices_ContainsFunc_Sint_int a1_ a2_).ev

noncomputable def A_slices_ContainsFunc_Sint_int : Sh := (.cons (.dat (.slice (.int .i64))) (.cons (.clo [(.int .i64)] .bool) .nil))

noncomputable def K_slices_ContainsFunc_Sint_int : RetK := { acts := [], res := [.tmp 4], sh := (.cons (.dat .bool) .nil), obs := [] }

noncomputable def D_slices_ContainsFunc_Sint_int : FD where
  A := A_slices_ContainsFunc_Sint_int
  R := Bool
  F := fun x => F_slices_ContainsFunc_Sint_int x.1 x.2.1
  emb := fun r => ([.dat .bool r], [])

noncomputable def E_slices_ContainsFunc_Sint_int : Env := envOf [(73, D_slices_IndexFunc_Sint_int)]

noncomputable def Z_slices_ContainsFunc_Sint_int : Nat → Nat → List Nat := fun _ _ => []

noncomputable def O_slices_ContainsFunc_Sint_int : List (Nat × LD) := []

noncomputable def C_slices_ContainsFunc_Sint_int : Code := (f60.body).getD .skip

/-! ### 53 loop.example/g01110/impl.between -/

noncomputable def T_im_between (a1_ : Int) (a2_ : Int) (a3_ : Int) : Tr (Bool) :=
  .t (decide (a2_ ≤ a1_))
    (.l (decide (a1_ ≤ a3_)))
    (.l false)

noncomputable def F_im_between (a1_ : Int) (a2_ : Int) (a3_ : Int) : Option (Bool) := (T_im_between a1_ a2_ a3_).ev

noncomputable def A_im_between : Sh := (.cons (.dat (.int .i64)) (.cons (.dat (.int .i64)) (.cons (.dat (.int .i64)) .nil)))

noncomputable def K_im_between : RetK := { acts := [], res := [.tmp 6], sh := (.cons (.dat .bool) .nil), obs := [] }

noncomputable def D_im_between : FD where
  A := A_im_between
  R := Bool
  F := fun x => F_im_between x.1 x.2.1 x.2.2.1
  emb := fun r => ([.dat .bool r], [])

noncomputable def E_im_between : Env := envOf []

noncomputable def Z_im_between : Nat → Nat → List Nat := fun _ _ => []

noncomputable def O_im_between : List (Nat × LD) := []

noncomputable def C_im_between : Code := (f53.body).getD .skip

/-! ### 61 loop.example/g01110/impl.areBetween$1 -/

noncomputable def T_im_areBetween_1 (a1_ : Int) (a2_ : Int) (a3_ : Int) : Tr (Bool) :=
  .c (Bool) (F_im_between a1_ a2_ a3_) fun r1_ =>
  .l (!r1_)

noncomputable def F_im_areBetween_1 (a1_ : Int) (a2_ : Int) (a3_ : Int) : Option (Bool) := (T_im_areBetween_1 a1_ a2_ a3_).ev

noncomputable def A_im_areBetween_1 : Sh := (.cons (.dat (.int .i64)) (.cons (.ptr (.cons (.dat (.int .i64)) .nil)) (.cons (.ptr (.cons (.dat (.int .i64)) .nil)) .nil)))

noncomputable def K_im_areBetween_1 : RetK := { acts := [], res := [.tmp 4], sh := (.cons (.dat .bool) .nil), obs := [] }

noncomputable def D_im_areBetween_1 : FD where
  A := A_im_areBetween_1
  R := Bool
  F := fun x => F_im_areBetween_1 x.1 x.2.1.1 x.2.2.1.1
  emb := fun r => ([.dat .bool r], [])

noncomputable def E_im_areBetween_1 : Env := envOf [(53, D_im_between)]

noncomputable def Z_im_areBetween_1 : Nat → Nat → List Nat := fun _ _ => []

noncomputable def O_im_areBetween_1 : List (Nat × LD) := []

noncomputable def C_im_areBetween_1 : Code := (f61.body).getD .skip

/-! ### 36 loop.example/g01110/impl.areBetween -/

noncomputable def T_im_areBetween (a1_ : List (Int)) (a2_ : Int) (a3_ : Int) : Tr (Bool) :=
  .c (Bool) (F_slices_ContainsFunc_Sint_int a1_ (fun h1_ => Option.bind (F_im_areBetween_1 h1_.1 a2_ a3_) fun y2_ => some y2_)) fun r3_ =>
  .l (!r3_)

noncomputable def F_im_areBetween (a1_ : List (Int)) (a2_ : Int) (a3_ : Int) : Option (Bool) := (T_im_areBetween a1_ a2_ a3_).ev

noncomputable def A_im_areBetween : Sh := (.cons (.dat (.slice (.int .i64))) (.cons (.dat (.int .i64)) (.cons (.dat (.int .i64)) .nil)))

noncomputable def K_im_areBetween : RetK := { acts := [], res := [.tmp 6], sh := (.cons (.dat .bool) .nil), obs := [] }

noncomputable def D_im_areBetween : FD where
  A := A_im_areBetween
  R := Bool
  F := fun x => F_im_areBetween x.1 x.2.1 x.2.2.1
  emb := fun r => ([.dat .bool r], [])

noncomputable def E_im_areBetween : Env := envOf [(60, D_slices_ContainsFunc_Sint_int), (61, D_im_areBetween_1)]

noncomputable def Z_im_areBetween : Nat → Nat → List Nat := fun _ _ => []

noncomputable def O_im_areBetween : List (Nat × LD) := []

noncomputable def C_im_areBetween : Code := (f36.body).getD .skip

/-! ### 13 loop.example/g01110/impl.IsGround -/

noncomputable def S_im_IsGround_0 (k : (List (List (Int))) × ((List (List (Int))) × (Int))) (v : Int) : Tr ((Int) ⊕ ((Unit) ⊕ (Unit))) :=
  .t (decide (v < k.2.2))
    (.g (inR v (List.length k.2.1)) <|
      .t (((List.length (List.getD k.2.1 (Int.toNat v) ([] : List (Int))) : Nat) : Int) != ((List.length k.1 : Nat) : Int))
        (.l (.inr (.inr ())))
        (.c (Bool) (F_im_areBetween (List.getD k.2.1 (Int.toNat v) ([] : List (Int))) (0 : Int) (99 : Int)) fun r5_ =>
          .t (!r5_)
            (.l (.inr (.inr ())))
            (.l (.inl (IntKind.wrap .i64 (v + (1 : Int)))))))
    (.l (.inr (.inl ())))

noncomputable def L_im_IsGround_0 (k : (List (List (Int))) × ((List (List (Int))) × (Int))) (v : Int) : Option ((Unit) ⊕ (Unit)) := iter (fun v => (S_im_IsGround_0 k v).ev) v

noncomputable def DL_im_IsGround_0 : LD where
  head := { acts := [], S := { slots := [0, 12, 13, 14], sh := (.cons (.dat (.slice (.slice (.int .i64)))) (.cons (.dat (.slice (.slice (.int .i64)))) (.cons (.dat (.int .i64)) (.cons (.dat (.int .i64)) .nil)))), obs := [] } }
  exits := [(0, { acts := [], S := { slots := [0], sh := (.cons (.dat (.slice (.slice (.int .i64)))) .nil), obs := [] } })]
  rets := { acts := [], S := { slots := [2], sh := (.cons (.dat .bool) .nil), obs := [] } }
  K := (List (List (Int))) × ((List (List (Int))) × (Int))
  V := Int
  R := (Unit) ⊕ (Unit)
  join := fun k v => ((k.1, (k.2.1, (k.2.2, (v, ())))), ())
  sk := fun t => (t.1.1, (t.1.2.1, t.1.2.2.1))
  sv := fun t => t.1.2.2.2.1
  step := S_im_IsGround_0
  leaf := fun k r => .s (Unit) (Unit) r (fun _ => .l (.exit 0 (mkSt ({ slots := [0], sh := (.cons (.dat (.slice (.slice (.int .i64)))) .nil), obs := [] }) ((k.1, ()), ())))) (fun _ => .l (.ret (mkSt ({ slots := [2], sh := (.cons (.dat .bool) .nil), obs := [] }) ((false, ()), ()))))

noncomputable def S_im_IsGround_4 (k : (List (List (Int))) × ((Int) × ((List (List (Int))) × ((Int) × ((Int) × ((List (Int)) × (Int))))))) (v : Int) : Tr ((Int) ⊕ ((Unit) ⊕ (Unit))) :=
  .t (decide (v < k.2.2.2.2.2.2))
    (.g (inR v (List.length k.2.2.2.2.2.1)) <|
      .g (inR v (List.length k.1)) <|
      .g (inR k.2.1 (List.length (List.getD k.1 (Int.toNat v) ([] : List (Int))))) <|
      .t ((List.getD k.2.2.2.2.2.1 (Int.toNat v) (0 : Int)) != (List.getD (List.getD k.1 (Int.toNat v) ([] : List (Int))) (Int.toNat k.2.1) (0 : Int)))
        (.l (.inr (.inr ())))
        (.t (k.2.1 == v)
            (.t ((List.getD k.2.2.2.2.2.1 (Int.toNat v) (0 : Int)) != (0 : Int))
                (.l (.inr (.inr ())))
                (.l (.inl (IntKind.wrap .i64 (v + (1 : Int))))))
            (.l (.inl (IntKind.wrap .i64 (v + (1 : Int)))))))
    (.l (.inr (.inl ())))

noncomputable def L_im_IsGround_4 (k : (List (List (Int))) × ((Int) × ((List (List (Int))) × ((Int) × ((Int) × ((List (Int)) × (Int))))))) (v : Int) : Option ((Unit) ⊕ (Unit)) := iter (fun v => (S_im_IsGround_4 k v).ev) v

noncomputable def DL_im_IsGround_4 : LD where
  head := { acts := [], S := { slots := [0, 5, 29, 30, 31, 36, 37, 38], sh := (.cons (.dat (.slice (.slice (.int .i64)))) (.cons (.dat (.int .i64)) (.cons (.dat (.slice (.slice (.int .i64)))) (.cons (.dat (.int .i64)) (.cons (.dat (.int .i64)) (.cons (.dat (.slice (.int .i64))) (.cons (.dat (.int .i64)) (.cons (.dat (.int .i64)) .nil)))))))), obs := [] } }
  exits := [(4, { acts := [], S := { slots := [0, 29, 30, 31], sh := (.cons (.dat (.slice (.slice (.int .i64)))) (.cons (.dat (.slice (.slice (.int .i64)))) (.cons (.dat (.int .i64)) (.cons (.dat (.int .i64)) .nil)))), obs := [] } })]
  rets := { acts := [], S := { slots := [2], sh := (.cons (.dat .bool) .nil), obs := [] } }
  K := (List (List (Int))) × ((Int) × ((List (List (Int))) × ((Int) × ((Int) × ((List (Int)) × (Int))))))
  V := Int
  R := (Unit) ⊕ (Unit)
  join := fun k v => ((k.1, (k.2.1, (k.2.2.1, (k.2.2.2.1, (k.2.2.2.2.1, (k.2.2.2.2.2.1, (k.2.2.2.2.2.2, (v, ())))))))), ())
  sk := fun t => (t.1.1, (t.1.2.1, (t.1.2.2.1, (t.1.2.2.2.1, (t.1.2.2.2.2.1, (t.1.2.2.2.2.2.1, t.1.2.2.2.2.2.2.1))))))
  sv := fun t => t.1.2.2.2.2.2.2.2.1
  step := S_im_IsGround_4
  leaf := fun k r => .s (Unit) (Unit) r (fun _ => .l (.exit 4 (mkSt ({ slots := [0, 29, 30, 31], sh := (.cons (.dat (.slice (.slice (.int .i64)))) (.cons (.dat (.slice (.slice (.int .i64)))) (.cons (.dat (.int .i64)) (.cons (.dat (.int .i64)) .nil)))), obs := [] }) ((k.1, (k.2.2.1, (k.2.2.2.1, (k.2.2.2.2.1, ())))), ())))) (fun _ => .l (.ret (mkSt ({ slots := [2], sh := (.cons (.dat .bool) .nil), obs := [] }) ((false, ()), ()))))

noncomputable def S_im_IsGround_2 (k : (List (List (Int))) × ((List (List (Int))) × (Int))) (v : Int) : Tr ((Int) ⊕ ((Unit) ⊕ (Unit))) :=
  .t (decide (v < k.2.2))
    (.g (inR v (List.length k.2.1)) <|
      .c ((Unit) ⊕ (Unit)) (L_im_IsGround_4 (k.1, (v, (k.2.1, (k.2.2, (v, ((List.getD k.2.1 (Int.toNat v) ([] : List (Int))), ((List.length (List.getD k.2.1 (Int.toNat v) ([] : List (Int))) : Nat) : Int))))))) (0 : Int)) fun r28_ =>
      .s (Unit) (Unit) r28_
        (fun _ => .l (.inl (IntKind.wrap .i64 (v + (1 : Int)))))
        (fun _ => .l (.inr (.inr ()))))
    (.l (.inr (.inl ())))

noncomputable def L_im_IsGround_2 (k : (List (List (Int))) × ((List (List (Int))) × (Int))) (v : Int) : Option ((Unit) ⊕ (Unit)) := iter (fun v => (S_im_IsGround_2 k v).ev) v

noncomputable def DL_im_IsGround_2 : LD where
  head := { acts := [], S := { slots := [0, 29, 30, 31], sh := (.cons (.dat (.slice (.slice (.int .i64)))) (.cons (.dat (.slice (.slice (.int .i64)))) (.cons (.dat (.int .i64)) (.cons (.dat (.int .i64)) .nil)))), obs := [] } }
  exits := [(2, { acts := [], S := { slots := [], sh := .nil, obs := [] } })]
  rets := { acts := [], S := { slots := [2], sh := (.cons (.dat .bool) .nil), obs := [] } }
  K := (List (List (Int))) × ((List (List (Int))) × (Int))
  V := Int
  R := (Unit) ⊕ (Unit)
  join := fun k v => ((k.1, (k.2.1, (k.2.2, (v, ())))), ())
  sk := fun t => (t.1.1, (t.1.2.1, t.1.2.2.1))
  sv := fun t => t.1.2.2.2.1
  step := S_im_IsGround_2
  leaf := fun _ r => .s (Unit) (Unit) r (fun _ => .l (.exit 2 (mkSt ({ slots := [], sh := .nil, obs := [] }) ((), ())))) (fun _ => .l (.ret (mkSt ({ slots := [2], sh := (.cons (.dat .bool) .nil), obs := [] }) ((false, ()), ()))))

noncomputable def T_im_IsGround (a1_ : List (List (Int))) : Tr (Bool) :=
  .t (decide ((7 : Int) < ((List.length a1_ : Nat) : Int)))
    (.l false)
    (.c ((Unit) ⊕ (Unit)) (L_im_IsGround_0 (a1_, (a1_, ((List.length a1_ : Nat) : Int))) (0 : Int)) fun r8_ =>
      .s (Unit) (Unit) r8_
        (fun _ => .c ((Unit) ⊕ (Unit)) (L_im_IsGround_2 (a1_, (a1_, ((List.length a1_ : Nat) : Int))) (0 : Int)) fun r32_ =>
          .s (Unit) (Unit) r32_
            (fun _ => .l true)
            (fun _ => .l false))
        (fun _ => .l false))

noncomputable def F_im_IsGround (a1_ : List (List (Int))) : Option (Bool) := (T_im_IsGround a1_).ev

noncomputable def A_im_IsGround : Sh := (.cons (.dat (.slice (.slice (.int .i64)))) .nil)

noncomputable def K_im_IsGround : RetK := { acts := [], res := [.tmp 2], sh := (.cons (.dat .bool) .nil), obs := [] }

noncomputable def D_im_IsGround : FD where
  A := A_im_IsGround
  R := Bool
  F := fun x => F_im_IsGround x.1
  emb := fun r => ([.dat .bool r], [])

noncomputable def E_im_IsGround : Env := envOf [(36, D_im_areBetween)]

noncomputable def Z_im_IsGround : Nat → Nat → List Nat := fun _ _ => []

noncomputable def O_im_IsGround : List (Nat × LD) := [(0, DL_im_IsGround_0), (4, DL_im_IsGround_4), (2, DL_im_IsGround_2)]

noncomputable def C_im_IsGround : Code := (f13.body).getD .skip

/-! ### 18 loop.example/g01110/laws.eqIntS -/

noncomputable def S_lw_eqIntS_0 (k : (List (Int)) × (List (Int))) (v : Int) : Tr ((Int) ⊕ ((Unit) ⊕ (Unit))) :=
  .t (decide (v < ((List.length k.1 : Nat) : Int)))
    (.g (inR v (List.length k.1)) <|
      .g (inR v (List.length k.2)) <|
      .t ((List.getD k.1 (Int.toNat v) (0 : Int)) != (List.getD k.2 (Int.toNat v) (0 : Int)))
        (.l (.inr (.inr ())))
        (.l (.inl (IntKind.wrap .i64 (v + (1 : Int))))))
    (.l (.inr (.inl ())))

noncomputable def L_lw_eqIntS_0 (k : (List (Int)) × (List (Int))) (v : Int) : Option ((Unit) ⊕ (Unit)) := iter (fun v => (S_lw_eqIntS_0 k v).ev) v

noncomputable def DL_lw_eqIntS_0 : LD where
  head := { acts := [], S := { slots := [0, 1, 5], sh := (.cons (.dat (.slice (.int .i64))) (.cons (.dat (.slice (.int .i64))) (.cons (.dat (.int .i64)) .nil))), obs := [] } }
  exits := [(0, { acts := [], S := { slots := [], sh := .nil, obs := [] } })]
  rets := { acts := [], S := { slots := [4], sh := (.cons (.dat .bool) .nil), obs := [] } }
  K := (List (Int)) × (List (Int))
  V := Int
  R := (Unit) ⊕ (Unit)
  join := fun k v => ((k.1, (k.2, (v, ()))), ())
  sk := fun t => (t.1.1, t.1.2.1)
  sv := fun t => t.1.2.2.1
  step := S_lw_eqIntS_0
  leaf := fun _ r => .s (Unit) (Unit) r (fun _ => .l (.exit 0 (mkSt ({ slots := [], sh := .nil, obs := [] }) ((), ())))) (fun _ => .l (.ret (mkSt ({ slots := [4], sh := (.cons (.dat .bool) .nil), obs := [] }) ((false, ()), ()))))

noncomputable def T_lw_eqIntS (a1_ : List (Int)) (a2_ : List (Int)) : Tr (Bool) :=
  .t (((List.length a1_ : Nat) : Int) != ((List.length a2_ : Nat) : Int))
    (.l false)
    (.c ((Unit) ⊕ (Unit)) (L_lw_eqIntS_0 (a1_, a2_) (0 : Int)) fun r5_ =>
      .s (Unit) (Unit) r5_
        (fun _ => .l true)
        (fun _ => .l false))

noncomputable def F_lw_eqIntS (a1_ : List (Int)) (a2_ : List (Int)) : Option (Bool) := (T_lw_eqIntS a1_ a2_).ev

noncomputable def A_lw_eqIntS : Sh := (.cons (.dat (.slice (.int .i64))) (.cons (.dat (.slice (.int .i64))) .nil))

noncomputable def K_lw_eqIntS : RetK := { acts := [], res := [.tmp 4], sh := (.cons (.dat .bool) .nil), obs := [] }

noncomputable def D_lw_eqIntS : FD where
  A := A_lw_eqIntS
  R := Bool
  F := fun x => F_lw_eqIntS x.1 x.2.1
  emb := fun r => ([.dat .bool r], [])

noncomputable def E_lw_eqIntS : Env := envOf []

noncomputable def Z_lw_eqIntS : Nat → Nat → List Nat := fun _ _ => []

noncomputable def O_lw_eqIntS : List (Nat × LD) := [(0, DL_lw_eqIntS_0)]

noncomputable def C_lw_eqIntS : Code := (f18.body).getD .skip

/-! ### 14 loop.example/g01110/laws.eqIntSS -/

noncomputable def S_lw_eqIntSS_0 (k : (List (List (Int))) × (List (List (Int)))) (v : Int) : Tr ((Int) ⊕ ((Unit) ⊕ (Unit))) :=
  .t (decide (v < ((List.length k.1 : Nat) : Int)))
    (.g (inR v (List.length k.1)) <|
      .g (inR v (List.length k.2)) <|
      .c (Bool) (F_lw_eqIntS (List.getD k.1 (Int.toNat v) ([] : List (Int))) (List.getD k.2 (Int.toNat v) ([] : List (Int)))) fun r4_ =>
      .t (!r4_)
        (.l (.inr (.inr ())))
        (.l (.inl (IntKind.wrap .i64 (v + (1 : Int))))))
    (.l (.inr (.inl ())))

noncomputable def L_lw_eqIntSS_0 (k : (List (List (Int))) × (List (List (Int)))) (v : Int) : Option ((Unit) ⊕ (Unit)) := iter (fun v => (S_lw_eqIntSS_0 k v).ev) v

noncomputable def DL_lw_eqIntSS_0 : LD where
  head := { acts := [], S := { slots := [0, 1, 5], sh := (.cons (.dat (.slice (.slice (.int .i64)))) (.cons (.dat (.slice (.slice (.int .i64)))) (.cons (.dat (.int .i64)) .nil))), obs := [] } }
  exits := [(0, { acts := [], S := { slots := [], sh := .nil, obs := [] } })]
  rets := { acts := [], S := { slots := [4], sh := (.cons (.dat .bool) .nil), obs := [] } }
  K := (List (List (Int))) × (List (List (Int)))
  V := Int
  R := (Unit) ⊕ (Unit)
  join := fun k v => ((k.1, (k.2, (v, ()))), ())
  sk := fun t => (t.1.1, t.1.2.1)
  sv := fun t => t.1.2.2.1
  step := S_lw_eqIntSS_0
  leaf := fun _ r => .s (Unit) (Unit) r (fun _ => .l (.exit 0 (mkSt ({ slots := [], sh := .nil, obs := [] }) ((), ())))) (fun _ => .l (.ret (mkSt ({ slots := [4], sh := (.cons (.dat .bool) .nil), obs := [] }) ((false, ()), ()))))

noncomputable def T_lw_eqIntSS (a1_ : List (List (Int))) (a2_ : List (List (Int))) : Tr (Bool) :=
  .t (((List.length a1_ : Nat) : Int) != ((List.length a2_ : Nat) : Int))
    (.l false)
    (.c ((Unit) ⊕ (Unit)) (L_lw_eqIntSS_0 (a1_, a2_) (0 : Int)) fun r6_ =>
      .s (Unit) (Unit) r6_
        (fun _ => .l true)
        (fun _ => .l false))

noncomputable def F_lw_eqIntSS (a1_ : List (List (Int))) (a2_ : List (List (Int))) : Option (Bool) := (T_lw_eqIntSS a1_ a2_).ev

noncomputable def A_lw_eqIntSS : Sh := (.cons (.dat (.slice (.slice (.int .i64)))) (.cons (.dat (.slice (.slice (.int .i64)))) .nil))

noncomputable def K_lw_eqIntSS : RetK := { acts := [], res := [.tmp 4], sh := (.cons (.dat .bool) .nil), obs := [] }

noncomputable def D_lw_eqIntSS : FD where
  A := A_lw_eqIntSS
  R := Bool
  F := fun x => F_lw_eqIntSS x.1 x.2.1
  emb := fun r => ([.dat .bool r], [])

noncomputable def E_lw_eqIntSS : Env := envOf [(18, D_lw_eqIntS)]

noncomputable def Z_lw_eqIntSS : Nat → Nat → List Nat := fun _ _ => []

noncomputable def O_lw_eqIntSS : List (Nat × LD) := [(0, DL_lw_eqIntSS_0)]

noncomputable def C_lw_eqIntSS : Code := (f14.body).getD .skip

/-! ### 3 loop.example/g01110/laws.FnExactIsGround -/

noncomputable def T_lw_FnExactIsGround (a1_ : List (List (Int))) : Tr (Bool) :=
  .c (Int) (F_lw_szIntSS a1_ (1048576 : Int)) fun r1_ =>
  .t (decide (r1_ < (0 : Int)))
    (.l true)
    (.c (List (List (Int))) (F_lw_toIntSS a1_) fun r2_ =>
      .c (Bool) (F_sp_IsGround r2_) fun r3_ =>
      .c (List (List (Int))) (F_lw_toIntSS a1_) fun r4_ =>
      .c (Bool) (F_im_IsGround r4_) fun r5_ =>
      .t (!(r5_ == r3_))
        (.l false)
        (.c (List (List (Int))) (F_lw_toIntSS a1_) fun r6_ =>
          .c (Bool) (F_lw_eqIntSS r4_ r6_) fun r7_ =>
          .t (!r7_)
            (.l false)
            (.l true)))

noncomputable def F_lw_FnExactIsGround (a1_ : List (List (Int))) : Option (Bool) := (T_lw_FnExactIsGround a1_).ev

noncomputable def A_lw_FnExactIsGround : Sh := (.cons (.dat (.slice (.slice (.int .i64)))) .nil)

noncomputable def K_lw_FnExactIsGround : RetK := { acts := [], res := [.tmp 2], sh := (.cons (.dat .bool) .nil), obs := [] }

noncomputable def D_lw_FnExactIsGround : FD where
  A := A_lw_FnExactIsGround
  R := Bool
  F := fun x => F_lw_FnExactIsGround x.1
  emb := fun r => ([.dat .bool r], [])

noncomputable def E_lw_FnExactIsGround : Env := envOf [(10, D_lw_szIntSS), (12, D_lw_toIntSS), (11, D_sp_IsGround), (13, D_im_IsGround), (14, D_lw_eqIntSS)]

noncomputable def Z_lw_FnExactIsGround : Nat → Nat → List Nat := fun _ _ => []

noncomputable def O_lw_FnExactIsGround : List (Nat × LD) := []

noncomputable def C_lw_FnExactIsGround : Code := (f3.body).getD .skip

/-! ### 37 loop.example/g01110/spec.l11Small -/

noncomputable def T_sp_l11Small (a1_ : List (List (Int))) : Tr (Bool) :=
  .c (Bool) (F_sp_l11Ground a1_) fun r1_ =>
  .t r1_
    (.l (decide (((List.length a1_ : Nat) : Int) ≤ (5 : Int))))
    (.l false)

noncomputable def F_sp_l11Small (a1_ : List (List (Int))) : Option (Bool) := (T_sp_l11Small a1_).ev

noncomputable def A_sp_l11Small : Sh := (.cons (.dat (.slice (.slice (.int .i64)))) .nil)

noncomputable def K_sp_l11Small : RetK := { acts := [], res := [.tmp 2], sh := (.cons (.dat .bool) .nil), obs := [] }

noncomputable def D_sp_l11Small : FD where
  A := A_sp_l11Small
  R := Bool
  F := fun x => F_sp_l11Small x.1
  emb := fun r => ([.dat .bool r], [])

noncomputable def E_sp_l11Small : Env := envOf [(35, D_sp_l11Ground)]

noncomputable def Z_sp_l11Small : Nat → Nat → List Nat := fun _ _ => []

noncomputable def O_sp_l11Small : List (Nat × LD) := []

noncomputable def C_sp_l11Small : Code := (f37.body).getD .skip

/-! ### 38 loop.example/g01110/spec.l11Hubs -/

noncomputable def S_sp_l11Hubs_0 (k : (List (List (Int))) × (List (Int))) (v : Int) : Tr ((Int) ⊕ ((Unit) ⊕ (Unit))) :=
  .t (decide (v < ((List.length k.2 : Nat) : Int)))
    (.g (inR v (List.length k.2)) <|
      .c (Bool) (F_sp_l1In (List.getD k.2 (Int.toNat v) (0 : Int)) (0 : Int) (IntKind.wrap .i64 (((List.length k.2 : Nat) : Int) - (1 : Int)))) fun r4_ =>
      .t (!r4_)
        (.l (.inr (.inr ())))
        (.l (.inl (IntKind.wrap .i64 (v + (1 : Int))))))
    (.l (.inr (.inl ())))

noncomputable def L_sp_l11Hubs_0 (k : (List (List (Int))) × (List (Int))) (v : Int) : Option ((Unit) ⊕ (Unit)) := iter (fun v => (S_sp_l11Hubs_0 k v).ev) v

noncomputable def DL_sp_l11Hubs_0 : LD where
  head := { acts := [], S := { slots := [0, 1, 5], sh := (.cons (.dat (.slice (.slice (.int .i64)))) (.cons (.dat (.slice (.int .i64))) (.cons (.dat (.int .i64)) .nil))), obs := [] } }
  exits := [(0, { acts := [], S := { slots := [0, 1], sh := (.cons (.dat (.slice (.slice (.int .i64)))) (.cons (.dat (.slice (.int .i64))) .nil)), obs := [] } })]
  rets := { acts := [], S := { slots := [4], sh := (.cons (.dat .bool) .nil), obs := [] } }
  K := (List (List (Int))) × (List (Int))
  V := Int
  R := (Unit) ⊕ (Unit)
  join := fun k v => ((k.1, (k.2, (v, ()))), ())
  sk := fun t => (t.1.1, t.1.2.1)
  sv := fun t => t.1.2.2.1
  step := S_sp_l11Hubs_0
  leaf := fun k r => .s (Unit) (Unit) r (fun _ => .l (.exit 0 (mkSt ({ slots := [0, 1], sh := (.cons (.dat (.slice (.slice (.int .i64)))) (.cons (.dat (.slice (.int .i64))) .nil)), obs := [] }) ((k.1, (k.2, ())), ())))) (fun _ => .l (.ret (mkSt ({ slots := [4], sh := (.cons (.dat .bool) .nil), obs := [] }) ((false, ()), ()))))

noncomputable def S_sp_l11Hubs_2 (k : (List (List (Int))) × (List (Int))) (v : Int) : Tr ((Int) ⊕ ((Unit) ⊕ (Unit))) :=
  .t (decide (v < ((List.length k.2 : Nat) : Int)))
    (.g (inR v (List.length k.2)) <|
      .g (inR (List.getD k.2 (Int.toNat v) (0 : Int)) (List.length k.2)) <|
      .g (inR v (List.length k.2)) <|
      .t ((List.getD k.2 (Int.toNat (List.getD k.2 (Int.toNat v) (0 : Int))) (0 : Int)) != (List.getD k.2 (Int.toNat v) (0 : Int)))
        (.l (.inr (.inr ())))
        (.l (.inl (IntKind.wrap .i64 (v + (1 : Int))))))
    (.l (.inr (.inl ())))

noncomputable def L_sp_l11Hubs_2 (k : (List (List (Int))) × (List (Int))) (v : Int) : Option ((Unit) ⊕ (Unit)) := iter (fun v => (S_sp_l11Hubs_2 k v).ev) v

noncomputable def DL_sp_l11Hubs_2 : LD where
  head := { acts := [], S := { slots := [0, 1, 6], sh := (.cons (.dat (.slice (.slice (.int .i64)))) (.cons (.dat (.slice (.int .i64))) (.cons (.dat (.int .i64)) .nil))), obs := [] } }
  exits := [(2, { acts := [], S := { slots := [0, 1], sh := (.cons (.dat (.slice (.slice (.int .i64)))) (.cons (.dat (.slice (.int .i64))) .nil)), obs := [] } })]
  rets := { acts := [], S := { slots := [4], sh := (.cons (.dat .bool) .nil), obs := [] } }
  K := (List (List (Int))) × (List (Int))
  V := Int
  R := (Unit) ⊕ (Unit)
  join := fun k v => ((k.1, (k.2, (v, ()))), ())
  sk := fun t => (t.1.1, t.1.2.1)
  sv := fun t => t.1.2.2.1
  step := S_sp_l11Hubs_2
  leaf := fun k r => .s (Unit) (Unit) r (fun _ => .l (.exit 2 (mkSt ({ slots := [0, 1], sh := (.cons (.dat (.slice (.slice (.int .i64)))) (.cons (.dat (.slice (.int .i64))) .nil)), obs := [] }) ((k.1, (k.2, ())), ())))) (fun _ => .l (.ret (mkSt ({ slots := [4], sh := (.cons (.dat .bool) .nil), obs := [] }) ((false, ()), ()))))

noncomputable def T_sp_l11Hubs (a1_ : List (List (Int))) (a2_ : List (Int)) : Tr (Bool) :=
  .c ((Unit) ⊕ (Unit)) (L_sp_l11Hubs_0 (a1_, a2_) (0 : Int)) fun r8_ =>
  .s (Unit) (Unit) r8_
    (fun _ => .c ((Unit) ⊕ (Unit)) (L_sp_l11Hubs_2 (a1_, a2_) (0 : Int)) fun r17_ =>
      .s (Unit) (Unit) r17_
        (fun _ => .l (((List.length a2_ : Nat) : Int) == ((List.length a1_ : Nat) : Int)))
        (fun _ => .l false))
    (fun _ => .l false)

noncomputable def F_sp_l11Hubs (a1_ : List (List (Int))) (a2_ : List (Int)) : Option (Bool) := (T_sp_l11Hubs a1_ a2_).ev

noncomputable def A_sp_l11Hubs : Sh := (.cons (.dat (.slice (.slice (.int .i64)))) (.cons (.dat (.slice (.int .i64))) .nil))

noncomputable def K_sp_l11Hubs : RetK := { acts := [], res := [.tmp 4], sh := (.cons (.dat .bool) .nil), obs := [] }

noncomputable def D_sp_l11Hubs : FD where
  A := A_sp_l11Hubs
  R := Bool
  F := fun x => F_sp_l11Hubs x.1 x.2.1
  emb := fun r => ([.dat .bool r], [])

noncomputable def E_sp_l11Hubs : Env := envOf [(62, D_sp_l1In)]

noncomputable def Z_sp_l11Hubs : Nat → Nat → List Nat := fun _ _ => []

noncomputable def O_sp_l11Hubs : List (Nat × LD) := [(0, DL_sp_l11Hubs_0), (2, DL_sp_l11Hubs_2)]

noncomputable def C_sp_l11Hubs : Code := (f38.body).getD .skip

/-! ### 15 loop.example/g01110/spec.IsAllocation -/

noncomputable def T_sp_IsAllocation (a1_ : List (List (Int))) (a2_ : List (Int)) : Tr ((Bool) × (Bool)) :=
  .c (Bool) (F_sp_l11Small a1_) fun r1_ =>
  .t (!r1_)
    (.l (false, false))
    (.c (Bool) (F_sp_l11Hubs a1_ a2_) fun r2_ =>
      .l (r2_, true))

noncomputable def F_sp_IsAllocation (a1_ : List (List (Int))) (a2_ : List (Int)) : Option ((Bool) × (Bool)) := (T_sp_IsAllocation a1_ a2_).ev

noncomputable def A_sp_IsAllocation : Sh := (.cons (.dat (.slice (.slice (.int .i64)))) (.cons (.dat (.slice (.int .i64))) .nil))

noncomputable def K_sp_IsAllocation : RetK := { acts := [], res := [.tmp 4, .tmp 5], sh := (.cons (.dat .bool) (.cons (.dat .bool) .nil)), obs := [] }

noncomputable def D_sp_IsAllocation : FD where
  A := A_sp_IsAllocation
  R := (Bool) × (Bool)
  F := fun x => F_sp_IsAllocation x.1 x.2.1
  emb := fun r => ([.dat .bool r.1, .dat .bool r.2], [])

noncomputable def E_sp_IsAllocation : Env := envOf [(37, D_sp_l11Small), (38, D_sp_l11Hubs)]

noncomputable def Z_sp_IsAllocation : Nat → Nat → List Nat := fun _ _ => []

noncomputable def O_sp_IsAllocation : List (Nat × LD) := []

noncomputable def C_sp_IsAllocation : Code := (f15.body).getD .skip

/-! ### 39 loop.example/g01110/impl.isNet -/

noncomputable def T_im_isNet (a1_ : List (List (Int))) : Tr (Bool) :=
  .c (Bool) (F_im_IsGround a1_) fun r1_ =>
  .t r1_
    (.l (decide (((List.length a1_ : Nat) : Int) ≤ (5 : Int))))
    (.l false)

noncomputable def F_im_isNet (a1_ : List (List (Int))) : Option (Bool) := (T_im_isNet a1_).ev

noncomputable def A_im_isNet : Sh := (.cons (.dat (.slice (.slice (.int .i64)))) .nil)

noncomputable def K_im_isNet : RetK := { acts := [], res := [.tmp 2], sh := (.cons (.dat .bool) .nil), obs := [] }

noncomputable def D_im_isNet : FD where
  A := A_im_isNet
  R := Bool
  F := fun x => F_im_isNet x.1
  emb := fun r => ([.dat .bool r], [])

noncomputable def E_im_isNet : Env := envOf [(13, D_im_IsGround)]

noncomputable def Z_im_isNet : Nat → Nat → List Nat := fun _ _ => []

noncomputable def O_im_isNet : List (Nat × LD) := []

noncomputable def C_im_isNet : Code := (f39.body).getD .skip

/-! ### 63 loop.example/g01110/impl.isAllocation$1 -/

noncomputable def T_im_isAllocation_1 (a1_ : Int) (a2_ : List (Int)) : Tr (Bool) :=
  .g (inR a1_ (List.length a2_)) <|
  .l ((List.getD a2_ (Int.toNat a1_) (0 : Int)) != a1_)

noncomputable def F_im_isAllocation_1 (a1_ : Int) (a2_ : List (Int)) : Option (Bool) := (T_im_isAllocation_1 a1_ a2_).ev

noncomputable def A_im_isAllocation_1 : Sh := (.cons (.dat (.int .i64)) (.cons (.ptr (.cons (.dat (.slice (.int .i64))) .nil)) .nil))

noncomputable def K_im_isAllocation_1 : RetK := { acts := [], res := [.tmp 3], sh := (.cons (.dat .bool) .nil), obs := [] }

noncomputable def D_im_isAllocation_1 : FD where
  A := A_im_isAllocation_1
  R := Bool
  F := fun x => F_im_isAllocation_1 x.1 x.2.1.1
  emb := fun r => ([.dat .bool r], [])

noncomputable def E_im_isAllocation_1 : Env := envOf []

noncomputable def Z_im_isAllocation_1 : Nat → Nat → List Nat := fun _ _ => []

noncomputable def O_im_isAllocation_1 : List (Nat × LD) := []

noncomputable def C_im_isAllocation_1 : Code := (f63.body).getD .skip

/-! ### 40 loop.example/g01110/impl.isAllocation -/

noncomputable def T_im_isAllocation (a1_ : Int) (a2_ : List (Int)) : Tr (Bool) :=
  .t (((List.length a2_ : Nat) : Int) == a1_)
    (.c (Bool) (F_im_areBetween a2_ (0 : Int) (IntKind.wrap .i64 (a1_ - (1 : Int)))) fun r1_ =>
      .t r1_
        (.c (Bool) (F_slices_ContainsFunc_Sint_int a2_ (fun h2_ => Option.bind (F_im_isAllocation_1 h2_.1 a2_) fun y3_ => some y3_)) fun r4_ =>
          .l (!r4_))
        (.l false))
    (.l false)

noncomputable def F_im_isAllocation (a1_ : Int) (a2_ : List (Int)) : Option (Bool) := (T_im_isAllocation a1_ a2_).ev

noncomputable def A_im_isAllocation : Sh := (.cons (.dat (.int .i64)) (.cons (.dat (.slice (.int .i64))) .nil))

noncomputable def K_im_isAllocation : RetK := { acts := [], res := [.tmp 4], sh := (.cons (.dat .bool) .nil), obs := [] }

noncomputable def D_im_isAllocation : FD where
  A := A_im_isAllocation
  R := Bool
  F := fun x => F_im_isAllocation x.1 x.2.1
  emb := fun r => ([.dat .bool r], [])

noncomputable def E_im_isAllocation : Env := envOf [(36, D_im_areBetween), (60, D_slices_ContainsFunc_Sint_int), (63, D_im_isAllocation_1)]

noncomputable def Z_im_isAllocation : Nat → Nat → List Nat := fun _ _ => []

noncomputable def O_im_isAllocation : List (Nat × LD) := []

noncomputable def C_im_isAllocation : Code := (f40.body).getD .skip

/-! ### 17 loop.example/g01110/impl.IsAllocation -/

noncomputable def T_im_IsAllocation (a1_ : List (List (Int))) (a2_ : List (Int)) : Tr ((Bool) × (Bool)) :=
  .c (Bool) (F_im_isNet a1_) fun r1_ =>
  .t (!r1_)
    (.l (false, false))
    (.c (Bool) (F_im_isAllocation ((List.length a1_ : Nat) : Int) a2_) fun r2_ =>
      .l (r2_, true))

noncomputable def F_im_IsAllocation (a1_ : List (List (Int))) (a2_ : List (Int)) : Option ((Bool) × (Bool)) := (T_im_IsAllocation a1_ a2_).ev

noncomputable def A_im_IsAllocation : Sh := (.cons (.dat (.slice (.slice (.int .i64)))) (.cons (.dat (.slice (.int .i64))) .nil))

noncomputable def K_im_IsAllocation : RetK := { acts := [], res := [.tmp 4, .tmp 5], sh := (.cons (.dat .bool) (.cons (.dat .bool) .nil)), obs := [] }

noncomputable def D_im_IsAllocation : FD where
  A := A_im_IsAllocation
  R := (Bool) × (Bool)
  F := fun x => F_im_IsAllocation x.1 x.2.1
  emb := fun r => ([.dat .bool r.1, .dat .bool r.2], [])

noncomputable def E_im_IsAllocation : Env := envOf [(39, D_im_isNet), (40, D_im_isAllocation)]

noncomputable def Z_im_IsAllocation : Nat → Nat → List Nat := fun _ _ => []

noncomputable def O_im_IsAllocation : List (Nat × LD) := []

noncomputable def C_im_IsAllocation : Code := (f17.body).getD .skip

/-! ### 4 loop.example/g01110/laws.FnExactIsAllocation -/

noncomputable def T_lw_FnExactIsAllocation (a1_ : List (List (Int))) (a2_ : List (Int)) : Tr (Bool) :=
  .t (decide ((1048576 : Int) < ((List.length a2_ : Nat) : Int)))
    (.l true)
    (.c (Int) (F_lw_szIntSS a1_ (1048576 : Int)) fun r1_ =>
      .t (decide (r1_ < (0 : Int)))
        (.l true)
        (.c (List (List (Int))) (F_lw_toIntSS a1_) fun r2_ =>
          .c (List (Int)) (F_lw_toIntS a2_) fun r3_ =>
          .c ((Bool) × (Bool)) (F_sp_IsAllocation r2_ r3_) fun r4_ =>
          .c (List (List (Int))) (F_lw_toIntSS a1_) fun r5_ =>
          .c (List (Int)) (F_lw_toIntS a2_) fun r6_ =>
          .c ((Bool) × (Bool)) (F_im_IsAllocation r5_ r6_) fun r7_ =>
          .t (!(r7_.1 == r4_.1))
            (.l false)
            (.t (!(r7_.2 == r4_.2))
                (.l false)
                (.c (List (List (Int))) (F_lw_toIntSS a1_) fun r8_ =>
                  .c (Bool) (F_lw_eqIntSS r5_ r8_) fun r9_ =>
                  .t (!r9_)
                    (.l false)
                    (.c (List (Int)) (F_lw_toIntS a2_) fun r10_ =>
                      .c (Bool) (F_lw_eqIntS r6_ r10_) fun r11_ =>
                      .t (!r11_)
                        (.l false)
                        (.l true))))))

noncomputable def F_lw_FnExactIsAllocation (a1_ : List (List (Int))) (a2_ : List (Int)) : Option (Bool) := (T_lw_FnExactIsAllocation a1_ a2_).ev

noncomputable def A_lw_FnExactIsAllocation : Sh := (.cons (.dat (.slice (.slice (.int .i64)))) (.cons (.dat (.slice (.int .i64))) .nil))

noncomputable def K_lw_FnExactIsAllocation : RetK := { acts := [], res := [.tmp 4], sh := (.cons (.dat .bool) .nil), obs := [] }

noncomputable def D_lw_FnExactIsAllocation : FD where
  A := A_lw_FnExactIsAllocation
  R := Bool
  F := fun x => F_lw_FnExactIsAllocation x.1 x.2.1
  emb := fun r => ([.dat .bool r], [])

noncomputable def E_lw_FnExactIsAllocation : Env := envOf [(10, D_lw_szIntSS), (12, D_lw_toIntSS), (16, D_lw_toIntS), (15, D_sp_IsAllocation), (17, D_im_IsAllocation), (14, D_lw_eqIntSS), (18, D_lw_eqIntS)]

noncomputable def Z_lw_FnExactIsAllocation : Nat → Nat → List Nat := fun _ _ => []

noncomputable def O_lw_FnExactIsAllocation : List (Nat × LD) := []

noncomputable def C_lw_FnExactIsAllocation : Code := (f4.body).getD .skip

/-! ### 41 loop.example/g01110/spec.l11Metric -/

noncomputable def S_sp_l11Metric_4 (k : (List (List (Int))) × ((Int) × (Int))) (v : Int) : Tr ((Int) ⊕ ((Unit) ⊕ (Unit))) :=
  .t (decide (v < ((List.length k.1 : Nat) : Int)))
    (.g (inR k.2.1 (List.length k.1)) <|
      .g (inR k.2.2 (List.length (List.getD k.1 (Int.toNat k.2.1) ([] : List (Int))))) <|
      .g (inR k.2.1 (List.length k.1)) <|
      .g (inR v (List.length (List.getD k.1 (Int.toNat k.2.1) ([] : List (Int))))) <|
      .g (inR v (List.length k.1)) <|
      .g (inR k.2.2 (List.length (List.getD k.1 (Int.toNat v) ([] : List (Int))))) <|
      .t (decide ((IntKind.wrap .i64 ((List.getD (List.getD k.1 (Int.toNat k.2.1) ([] : List (Int))) (Int.toNat v) (0 : Int)) + (List.getD (List.getD k.1 (Int.toNat v) ([] : List (Int))) (Int.toNat k.2.2) (0 : Int)))) < (List.getD (List.getD k.1 (Int.toNat k.2.1) ([] : List (Int))) (Int.toNat k.2.2) (0 : Int))))
        (.l (.inr (.inr ())))
        (.l (.inl (IntKind.wrap .i64 (v + (1 : Int))))))
    (.l (.inr (.inl ())))

noncomputable def L_sp_l11Metric_4 (k : (List (List (Int))) × ((Int) × (Int))) (v : Int) : Option ((Unit) ⊕ (Unit)) := iter (fun v => (S_sp_l11Metric_4 k v).ev) v

noncomputable def DL_sp_l11Metric_4 : LD where
  head := { acts := [], S := { slots := [0, 3, 4, 5], sh := (.cons (.dat (.slice (.slice (.int .i64)))) (.cons (.dat (.int .i64)) (.cons (.dat (.int .i64)) (.cons (.dat (.int .i64)) .nil)))), obs := [] } }
  exits := [(4, { acts := [], S := { slots := [0, 3, 4], sh := (.cons (.dat (.slice (.slice (.int .i64)))) (.cons (.dat (.int .i64)) (.cons (.dat (.int .i64)) .nil))), obs := [] } })]
  rets := { acts := [], S := { slots := [2], sh := (.cons (.dat .bool) .nil), obs := [] } }
  K := (List (List (Int))) × ((Int) × (Int))
  V := Int
  R := (Unit) ⊕ (Unit)
  join := fun k v => ((k.1, (k.2.1, (k.2.2, (v, ())))), ())
  sk := fun t => (t.1.1, (t.1.2.1, t.1.2.2.1))
  sv := fun t => t.1.2.2.2.1
  step := S_sp_l11Metric_4
  leaf := fun k r => .s (Unit) (Unit) r (fun _ => .l (.exit 4 (mkSt ({ slots := [0, 3, 4], sh := (.cons (.dat (.slice (.slice (.int .i64)))) (.cons (.dat (.int .i64)) (.cons (.dat (.int .i64)) .nil))), obs := [] }) ((k.1, (k.2.1, (k.2.2, ()))), ())))) (fun _ => .l (.ret (mkSt ({ slots := [2], sh := (.cons (.dat .bool) .nil), obs := [] }) ((false, ()), ()))))

noncomputable def S_sp_l11Metric_2 (k : (List (List (Int))) × (Int)) (v : Int) : Tr ((Int) ⊕ ((Unit) ⊕ (Unit))) :=
  .t (decide (v < ((List.length k.1 : Nat) : Int)))
    (.c ((Unit) ⊕ (Unit)) (L_sp_l11Metric_4 (k.1, (k.2, v)) (0 : Int)) fun r14_ =>
      .s (Unit) (Unit) r14_
        (fun _ => .l (.inl (IntKind.wrap .i64 (v + (1 : Int)))))
        (fun _ => .l (.inr (.inr ()))))
    (.l (.inr (.inl ())))

noncomputable def L_sp_l11Metric_2 (k : (List (List (Int))) × (Int)) (v : Int) : Option ((Unit) ⊕ (Unit)) := iter (fun v => (S_sp_l11Metric_2 k v).ev) v

noncomputable def DL_sp_l11Metric_2 : LD where
  head := { acts := [], S := { slots := [0, 3, 4], sh := (.cons (.dat (.slice (.slice (.int .i64)))) (.cons (.dat (.int .i64)) (.cons (.dat (.int .i64)) .nil))), obs := [] } }
  exits := [(2, { acts := [], S := { slots := [0, 3], sh := (.cons (.dat (.slice (.slice (.int .i64)))) (.cons (.dat (.int .i64)) .nil)), obs := [] } })]
  rets := { acts := [], S := { slots := [2], sh := (.cons (.dat .bool) .nil), obs := [] } }
  K := (List (List (Int))) × (Int)
  V := Int
  R := (Unit) ⊕ (Unit)
  join := fun k v => ((k.1, (k.2, (v, ()))), ())
  sk := fun t => (t.1.1, t.1.2.1)
  sv := fun t => t.1.2.2.1
  step := S_sp_l11Metric_2
  leaf := fun k r => .s (Unit) (Unit) r (fun _ => .l (.exit 2 (mkSt ({ slots := [0, 3], sh := (.cons (.dat (.slice (.slice (.int .i64)))) (.cons (.dat (.int .i64)) .nil)), obs := [] }) ((k.1, (k.2, ())), ())))) (fun _ => .l (.ret (mkSt ({ slots := [2], sh := (.cons (.dat .bool) .nil), obs := [] }) ((false, ()), ()))))

noncomputable def S_sp_l11Metric_0 (k : List (List (Int))) (v : Int) : Tr ((Int) ⊕ ((Unit) ⊕ (Unit))) :=
  .t (decide (v < ((List.length k : Nat) : Int)))
    (.c ((Unit) ⊕ (Unit)) (L_sp_l11Metric_2 (k, v) (0 : Int)) fun r20_ =>
      .s (Unit) (Unit) r20_
        (fun _ => .l (.inl (IntKind.wrap .i64 (v + (1 : Int)))))
        (fun _ => .l (.inr (.inr ()))))
    (.l (.inr (.inl ())))

noncomputable def L_sp_l11Metric_0 (k : List (List (Int))) (v : Int) : Option ((Unit) ⊕ (Unit)) := iter (fun v => (S_sp_l11Metric_0 k v).ev) v

noncomputable def DL_sp_l11Metric_0 : LD where
  head := { acts := [], S := { slots := [0, 3], sh := (.cons (.dat (.slice (.slice (.int .i64)))) (.cons (.dat (.int .i64)) .nil)), obs := [] } }
  exits := [(0, { acts := [], S := { slots := [], sh := .nil, obs := [] } })]
  rets := { acts := [], S := { slots := [2], sh := (.cons (.dat .bool) .nil), obs := [] } }
  K := List (List (Int))
  V := Int
  R := (Unit) ⊕ (Unit)
  join := fun k v => ((k, (v, ())), ())
  sk := fun t => t.1.1
  sv := fun t => t.1.2.1
  step := S_sp_l11Metric_0
  leaf := fun _ r => .s (Unit) (Unit) r (fun _ => .l (.exit 0 (mkSt ({ slots := [], sh := .nil, obs := [] }) ((), ())))) (fun _ => .l (.ret (mkSt ({ slots := [2], sh := (.cons (.dat .bool) .nil), obs := [] }) ((false, ()), ()))))

noncomputable def T_sp_l11Metric (a1_ : List (List (Int))) : Tr (Bool) :=
  .c ((Unit) ⊕ (Unit)) (L_sp_l11Metric_0 a1_ (0 : Int)) fun r24_ =>
  .s (Unit) (Unit) r24_
    (fun _ => .l true)
    (fun _ => .l false)

noncomputable def F_sp_l11Metric (a1_ : List (List (Int))) : Option (Bool) := (T_sp_l11Metric a1_).ev

noncomputable def A_sp_l11Metric : Sh := (.cons (.dat (.slice (.slice (.int .i64)))) .nil)

noncomputable def K_sp_l11Metric : RetK := { acts := [], res := [.tmp 2], sh := (.cons (.dat .bool) .nil), obs := [] }

noncomputable def D_sp_l11Metric : FD where
  A := A_sp_l11Metric
  R := Bool
  F := fun x => F_sp_l11Metric x.1
  emb := fun r => ([.dat .bool r], [])

noncomputable def E_sp_l11Metric : Env := envOf []

noncomputable def Z_sp_l11Metric : Nat → Nat → List Nat := fun _ _ => []

noncomputable def O_sp_l11Metric : List (Nat × LD) := [(4, DL_sp_l11Metric_4), (2, DL_sp_l11Metric_2), (0, DL_sp_l11Metric_0)]

noncomputable def C_sp_l11Metric : Code := (f41.body).getD .skip

/-! ### 19 loop.example/g01110/spec.IsMetricGround -/

noncomputable def T_sp_IsMetricGround (a1_ : List (List (Int))) : Tr ((Bool) × (Bool)) :=
  .c (Bool) (F_sp_l11Ground a1_) fun r1_ =>
  .t (!r1_)
    (.l (false, false))
    (.c (Bool) (F_sp_l11Metric a1_) fun r2_ =>
      .l (r2_, true))

noncomputable def F_sp_IsMetricGround (a1_ : List (List (Int))) : Option ((Bool) × (Bool)) := (T_sp_IsMetricGround a1_).ev

noncomputable def A_sp_IsMetricGround : Sh := (.cons (.dat (.slice (.slice (.int .i64)))) .nil)

noncomputable def K_sp_IsMetricGround : RetK := { acts := [], res := [.tmp 2, .tmp 3], sh := (.cons (.dat .bool) (.cons (.dat .bool) .nil)), obs := [] }

noncomputable def D_sp_IsMetricGround : FD where
  A := A_sp_IsMetricGround
  R := (Bool) × (Bool)
  F := fun x => F_sp_IsMetricGround x.1
  emb := fun r => ([.dat .bool r.1, .dat .bool r.2], [])

noncomputable def E_sp_IsMetricGround : Env := envOf [(35, D_sp_l11Ground), (41, D_sp_l11Metric)]

noncomputable def Z_sp_IsMetricGround : Nat → Nat → List Nat := fun _ _ => []

noncomputable def O_sp_IsMetricGround : List (Nat × LD) := []

noncomputable def C_sp_IsMetricGround : Code := (f19.body).getD .skip

/-! ### 20 loop.example/g01110/impl.IsMetricGround -/

noncomputable def S_im_IsMetricGround_4 (k : (List (List (Int))) × ((Int) × ((Int) × ((Int) × ((Int) × ((Int) × ((Int) × (Int)))))))) (v : Int) : Tr ((Int) ⊕ ((Unit) ⊕ (Unit))) :=
  .t (decide (v < k.2.2.2.2.2.2.2))
    (.g (inR k.2.1 (List.length k.1)) <|
      .g (inR k.2.2.1 (List.length (List.getD k.1 (Int.toNat k.2.1) ([] : List (Int))))) <|
      .g (inR k.2.1 (List.length k.1)) <|
      .g (inR v (List.length (List.getD k.1 (Int.toNat k.2.1) ([] : List (Int))))) <|
      .g (inR v (List.length k.1)) <|
      .g (inR k.2.2.1 (List.length (List.getD k.1 (Int.toNat v) ([] : List (Int))))) <|
      .t (decide ((IntKind.wrap .i64 ((List.getD (List.getD k.1 (Int.toNat k.2.1) ([] : List (Int))) (Int.toNat v) (0 : Int)) + (List.getD (List.getD k.1 (Int.toNat v) ([] : List (Int))) (Int.toNat k.2.2.1) (0 : Int)))) < (List.getD (List.getD k.1 (Int.toNat k.2.1) ([] : List (Int))) (Int.toNat k.2.2.1) (0 : Int))))
        (.l (.inr (.inr ())))
        (.l (.inl (IntKind.wrap .i64 (v + (1 : Int))))))
    (.l (.inr (.inl ())))

noncomputable def L_im_IsMetricGround_4 (k : (List (List (Int))) × ((Int) × ((Int) × ((Int) × ((Int) × ((Int) × ((Int) × (Int)))))))) (v : Int) : Option ((Unit) ⊕ (Unit)) := iter (fun v => (S_im_IsMetricGround_4 k v).ev) v

noncomputable def DL_im_IsMetricGround_4 : LD where
  head := { acts := [], S := { slots := [0, 4, 5, 11, 12, 16, 17, 21, 22], sh := (.cons (.dat (.slice (.slice (.int .i64)))) (.cons (.dat (.int .i64)) (.cons (.dat (.int .i64)) (.cons (.dat (.int .i64)) (.cons (.dat (.int .i64)) (.cons (.dat (.int .i64)) (.cons (.dat (.int .i64)) (.cons (.dat (.int .i64)) (.cons (.dat (.int .i64)) .nil))))))))), obs := [] } }
  exits := [(4, { acts := [], S := { slots := [0, 4, 11, 12, 16, 17], sh := (.cons (.dat (.slice (.slice (.int .i64)))) (.cons (.dat (.int .i64)) (.cons (.dat (.int .i64)) (.cons (.dat (.int .i64)) (.cons (.dat (.int .i64)) (.cons (.dat (.int .i64)) .nil)))))), obs := [] } })]
  rets := { acts := [], S := { slots := [2, 3], sh := (.cons (.dat .bool) (.cons (.dat .bool) .nil)), obs := [] } }
  K := (List (List (Int))) × ((Int) × ((Int) × ((Int) × ((Int) × ((Int) × ((Int) × (Int)))))))
  V := Int
  R := (Unit) ⊕ (Unit)
  join := fun k v => ((k.1, (k.2.1, (k.2.2.1, (k.2.2.2.1, (k.2.2.2.2.1, (k.2.2.2.2.2.1, (k.2.2.2.2.2.2.1, (k.2.2.2.2.2.2.2, (v, ()))))))))), ())
  sk := fun t => (t.1.1, (t.1.2.1, (t.1.2.2.1, (t.1.2.2.2.1, (t.1.2.2.2.2.1, (t.1.2.2.2.2.2.1, (t.1.2.2.2.2.2.2.1, t.1.2.2.2.2.2.2.2.1)))))))
  sv := fun t => t.1.2.2.2.2.2.2.2.2.1
  step := S_im_IsMetricGround_4
  leaf := fun k r => .s (Unit) (Unit) r (fun _ => .l (.exit 4 (mkSt ({ slots := [0, 4, 11, 12, 16, 17], sh := (.cons (.dat (.slice (.slice (.int .i64)))) (.cons (.dat (.int .i64)) (.cons (.dat (.int .i64)) (.cons (.dat (.int .i64)) (.cons (.dat (.int .i64)) (.cons (.dat (.int .i64)) .nil)))))), obs := [] }) ((k.1, (k.2.1, (k.2.2.2.1, (k.2.2.2.2.1, (k.2.2.2.2.2.1, (k.2.2.2.2.2.2.1, ())))))), ())))) (fun _ => .l (.ret (mkSt ({ slots := [2, 3], sh := (.cons (.dat .bool) (.cons (.dat .bool) .nil)), obs := [] }) ((false, (true, ())), ()))))

noncomputable def S_im_IsMetricGround_2 (k : (List (List (Int))) × ((Int) × ((Int) × ((Int) × (Int))))) (v : Int) : Tr ((Int) ⊕ ((Unit) ⊕ (Unit))) :=
  .t (decide (v < k.2.2.2.2))
    (.c ((Unit) ⊕ (Unit)) (L_im_IsMetricGround_4 (k.1, (k.2.1, (v, (k.2.2.1, (k.2.2.2.1, (k.2.2.2.2, (v, ((List.length k.1 : Nat) : Int)))))))) (0 : Int)) fun r28_ =>
      .s (Unit) (Unit) r28_
        (fun _ => .l (.inl (IntKind.wrap .i64 (v + (1 : Int)))))
        (fun _ => .l (.inr (.inr ()))))
    (.l (.inr (.inl ())))

noncomputable def L_im_IsMetricGround_2 (k : (List (List (Int))) × ((Int) × ((Int) × ((Int) × (Int))))) (v : Int) : Option ((Unit) ⊕ (Unit)) := iter (fun v => (S_im_IsMetricGround_2 k v).ev) v

noncomputable def DL_im_IsMetricGround_2 : LD where
  head := { acts := [], S := { slots := [0, 4, 11, 12, 16, 17], sh := (.cons (.dat (.slice (.slice (.int .i64)))) (.cons (.dat (.int .i64)) (.cons (.dat (.int .i64)) (.cons (.dat (.int .i64)) (.cons (.dat (.int .i64)) (.cons (.dat (.int .i64)) .nil)))))), obs := [] } }
  exits := [(2, { acts := [], S := { slots := [0, 11, 12], sh := (.cons (.dat (.slice (.slice (.int .i64)))) (.cons (.dat (.int .i64)) (.cons (.dat (.int .i64)) .nil))), obs := [] } })]
  rets := { acts := [], S := { slots := [2, 3], sh := (.cons (.dat .bool) (.cons (.dat .bool) .nil)), obs := [] } }
  K := (List (List (Int))) × ((Int) × ((Int) × ((Int) × (Int))))
  V := Int
  R := (Unit) ⊕ (Unit)
  join := fun k v => ((k.1, (k.2.1, (k.2.2.1, (k.2.2.2.1, (k.2.2.2.2, (v, ())))))), ())
  sk := fun t => (t.1.1, (t.1.2.1, (t.1.2.2.1, (t.1.2.2.2.1, t.1.2.2.2.2.1))))
  sv := fun t => t.1.2.2.2.2.2.1
  step := S_im_IsMetricGround_2
  leaf := fun k r => .s (Unit) (Unit) r (fun _ => .l (.exit 2 (mkSt ({ slots := [0, 11, 12], sh := (.cons (.dat (.slice (.slice (.int .i64)))) (.cons (.dat (.int .i64)) (.cons (.dat (.int .i64)) .nil))), obs := [] }) ((k.1, (k.2.2.1, (k.2.2.2.1, ()))), ())))) (fun _ => .l (.ret (mkSt ({ slots := [2, 3], sh := (.cons (.dat .bool) (.cons (.dat .bool) .nil)), obs := [] }) ((false, (true, ())), ()))))

noncomputable def S_im_IsMetricGround_0 (k : (List (List (Int))) × (Int)) (v : Int) : Tr ((Int) ⊕ ((Unit) ⊕ (Unit))) :=
  .t (decide (v < k.2))
    (.c ((Unit) ⊕ (Unit)) (L_im_IsMetricGround_2 (k.1, (v, (k.2, (v, ((List.length k.1 : Nat) : Int))))) (0 : Int)) fun r36_ =>
      .s (Unit) (Unit) r36_
        (fun _ => .l (.inl (IntKind.wrap .i64 (v + (1 : Int)))))
        (fun _ => .l (.inr (.inr ()))))
    (.l (.inr (.inl ())))

noncomputable def L_im_IsMetricGround_0 (k : (List (List (Int))) × (Int)) (v : Int) : Option ((Unit) ⊕ (Unit)) := iter (fun v => (S_im_IsMetricGround_0 k v).ev) v

noncomputable def DL_im_IsMetricGround_0 : LD where
  head := { acts := [], S := { slots := [0, 11, 12], sh := (.cons (.dat (.slice (.slice (.int .i64)))) (.cons (.dat (.int .i64)) (.cons (.dat (.int .i64)) .nil))), obs := [] } }
  exits := [(0, { acts := [], S := { slots := [], sh := .nil, obs := [] } })]
  rets := { acts := [], S := { slots := [2, 3], sh := (.cons (.dat .bool) (.cons (.dat .bool) .nil)), obs := [] } }
  K := (List (List (Int))) × (Int)
  V := Int
  R := (Unit) ⊕ (Unit)
  join := fun k v => ((k.1, (k.2, (v, ()))), ())
  sk := fun t => (t.1.1, t.1.2.1)
  sv := fun t => t.1.2.2.1
  step := S_im_IsMetricGround_0
  leaf := fun _ r => .s (Unit) (Unit) r (fun _ => .l (.exit 0 (mkSt ({ slots := [], sh := .nil, obs := [] }) ((), ())))) (fun _ => .l (.ret (mkSt ({ slots := [2, 3], sh := (.cons (.dat .bool) (.cons (.dat .bool) .nil)), obs := [] }) ((false, (true, ())), ()))))

noncomputable def T_im_IsMetricGround (a1_ : List (List (Int))) : Tr ((Bool) × (Bool)) :=
  .c (Bool) (F_im_IsGround a1_) fun r1_ =>
  .t (!r1_)
    (.l (false, false))
    (.c ((Unit) ⊕ (Unit)) (L_im_IsMetricGround_0 (a1_, ((List.length a1_ : Nat) : Int)) (0 : Int)) fun r41_ =>
      .s (Unit) (Unit) r41_
        (fun _ => .l (true, true))
        (fun _ => .l (false, true)))

noncomputable def F_im_IsMetricGround (a1_ : List (List (Int))) : Option ((Bool) × (Bool)) := (T_im_IsMetricGround a1_).ev

noncomputable def A_im_IsMetricGround : Sh := (.cons (.dat (.slice (.slice (.int .i64)))) .nil)

noncomputable def K_im_IsMetricGround : RetK := { acts := [], res := [.tmp 2, .tmp 3], sh := (.cons (.dat .bool) (.cons (.dat .bool) .nil)), obs := [] }

noncomputable def D_im_IsMetricGround : FD where
  A := A_im_IsMetricGround
  R := (Bool) × (Bool)
  F := fun x => F_im_IsMetricGround x.1
  emb := fun r => ([.dat .bool r.1, .dat .bool r.2], [])

noncomputable def E_im_IsMetricGround : Env := envOf [(13, D_im_IsGround)]

noncomputable def Z_im_IsMetricGround : Nat → Nat → List Nat := fun _ _ => []

noncomputable def O_im_IsMetricGround : List (Nat × LD) := [(4, DL_im_IsMetricGround_4), (2, DL_im_IsMetricGround_2), (0, DL_im_IsMetricGround_0)]

noncomputable def C_im_IsMetricGround : Code := (f20.body).getD .skip

/-! ### 5 loop.example/g01110/laws.FnExactIsMetricGround -/

noncomputable def T_lw_FnExactIsMetricGround (a1_ : List (List (Int))) : Tr (Bool) :=
  .c (Int) (F_lw_szIntSS a1_ (1048576 : Int)) fun r1_ =>
  .t (decide (r1_ < (0 : Int)))
    (.l true)
    (.c (List (List (Int))) (F_lw_toIntSS a1_) fun r2_ =>
      .c ((Bool) × (Bool)) (F_sp_IsMetricGround r2_) fun r3_ =>
      .c (List (List (Int))) (F_lw_toIntSS a1_) fun r4_ =>
      .c ((Bool) × (Bool)) (F_im_IsMetricGround r4_) fun r5_ =>
      .t (!(r5_.1 == r3_.1))
        (.l false)
        (.t (!(r5_.2 == r3_.2))
            (.l false)
            (.c (List (List (Int))) (F_lw_toIntSS a1_) fun r6_ =>
              .c (Bool) (F_lw_eqIntSS r4_ r6_) fun r7_ =>
              .t (!r7_)
                (.l false)
                (.l true))))

noncomputable def F_lw_FnExactIsMetricGround (a1_ : List (List (Int))) : Option (Bool) := (T_lw_FnExactIsMetricGround a1_).ev

noncomputable def A_lw_FnExactIsMetricGround : Sh := (.cons (.dat (.slice (.slice (.int .i64)))) .nil)

noncomputable def K_lw_FnExactIsMetricGround : RetK := { acts := [], res := [.tmp 2], sh := (.cons (.dat .bool) .nil), obs := [] }

noncomputable def D_lw_FnExactIsMetricGround : FD where
  A := A_lw_FnExactIsMetricGround
  R := Bool
  F := fun x => F_lw_FnExactIsMetricGround x.1
  emb := fun r => ([.dat .bool r], [])

noncomputable def E_lw_FnExactIsMetricGround : Env := envOf [(10, D_lw_szIntSS), (12, D_lw_toIntSS), (19, D_sp_IsMetricGround), (20, D_im_IsMetricGround), (14, D_lw_eqIntSS)]

noncomputable def Z_lw_FnExactIsMetricGround : Nat → Nat → List Nat := fun _ _ => []

noncomputable def O_lw_FnExactIsMetricGround : List (Nat × LD) := []

noncomputable def C_lw_FnExactIsMetricGround : Code := (f5.body).getD .skip

/-! ### 45 loop.example/g01110/spec.l1Rising -/

noncomputable def S_sp_l1Rising_0 (k : (List (Int)) × ((Int) × (Int))) (v : Int) : Tr ((Int) ⊕ ((Unit) ⊕ (Unit))) :=
  .t (decide (v < ((List.length k.1 : Nat) : Int)))
    (.g (inR v (List.length k.1)) <|
      .c (Bool) (F_sp_l1In (List.getD k.1 (Int.toNat v) (0 : Int)) k.2.1 k.2.2) fun r5_ =>
      .t (!r5_)
        (.l (.inr (.inr ())))
        (.t (decide ((0 : Int) < v))
            (.g (inR (IntKind.wrap .i64 (v - (1 : Int))) (List.length k.1)) <|
              .g (inR v (List.length k.1)) <|
              .t (decide ((List.getD k.1 (Int.toNat v) (0 : Int)) ≤ (List.getD k.1 (Int.toNat (IntKind.wrap .i64 (v - (1 : Int)))) (0 : Int))))
                (.l (.inr (.inr ())))
                (.l (.inl (IntKind.wrap .i64 (v + (1 : Int))))))
            (.l (.inl (IntKind.wrap .i64 (v + (1 : Int)))))))
    (.l (.inr (.inl ())))

noncomputable def L_sp_l1Rising_0 (k : (List (Int)) × ((Int) × (Int))) (v : Int) : Option ((Unit) ⊕ (Unit)) := iter (fun v => (S_sp_l1Rising_0 k v).ev) v

noncomputable def DL_sp_l1Rising_0 : LD where
  head := { acts := [], S := { slots := [0, 1, 2, 7], sh := (.cons (.dat (.slice (.int .i64))) (.cons (.dat (.int .i64)) (.cons (.dat (.int .i64)) (.cons (.dat (.int .i64)) .nil)))), obs := [] } }
  exits := [(0, { acts := [], S := { slots := [], sh := .nil, obs := [] } })]
  rets := { acts := [], S := { slots := [6], sh := (.cons (.dat .bool) .nil), obs := [] } }
  K := (List (Int)) × ((Int) × (Int))
  V := Int
  R := (Unit) ⊕ (Unit)
  join := fun k v => ((k.1, (k.2.1, (k.2.2, (v, ())))), ())
  sk := fun t => (t.1.1, (t.1.2.1, t.1.2.2.1))
  sv := fun t => t.1.2.2.2.1
  step := S_sp_l1Rising_0
  leaf := fun _ r => .s (Unit) (Unit) r (fun _ => .l (.exit 0 (mkSt ({ slots := [], sh := .nil, obs := [] }) ((), ())))) (fun _ => .l (.ret (mkSt ({ slots := [6], sh := (.cons (.dat .bool) .nil), obs := [] }) ((false, ()), ()))))

noncomputable def T_sp_l1Rising (a1_ : List (Int)) (a2_ : Int) (a3_ : Int) : Tr (Bool) :=
  .c ((Unit) ⊕ (Unit)) (L_sp_l1Rising_0 (a1_, (a2_, a3_)) (0 : Int)) fun r7_ =>
  .s (Unit) (Unit) r7_
    (fun _ => .l true)
    (fun _ => .l false)

noncomputable def F_sp_l1Rising (a1_ : List (Int)) (a2_ : Int) (a3_ : Int) : Option (Bool) := (T_sp_l1Rising a1_ a2_ a3_).ev

noncomputable def A_sp_l1Rising : Sh := (.cons (.dat (.slice (.int .i64))) (.cons (.dat (.int .i64)) (.cons (.dat (.int .i64)) .nil)))

noncomputable def K_sp_l1Rising : RetK := { acts := [], res := [.tmp 6], sh := (.cons (.dat .bool) .nil), obs := [] }

noncomputable def D_sp_l1Rising : FD where
  A := A_sp_l1Rising
  R := Bool
  F := fun x => F_sp_l1Rising x.1 x.2.1 x.2.2.1
  emb := fun r => ([.dat .bool r], [])

noncomputable def E_sp_l1Rising : Env := envOf [(62, D_sp_l1In)]

noncomputable def Z_sp_l1Rising : Nat → Nat → List Nat := fun _ _ => []

noncomputable def O_sp_l1Rising : List (Nat × LD) := [(0, DL_sp_l1Rising_0)]

noncomputable def C_sp_l1Rising : Code := (f45.body).getD .skip

/-! ### 67 loop.example/g01110/spec.l1Least -/

noncomputable def T_sp_l1Least (a1_ : Int) (a2_ : Int) : Tr (Int) :=
  .t (decide (a1_ < a2_))
    (.l a1_)
    (.l a2_)

noncomputable def F_sp_l1Least (a1_ : Int) (a2_ : Int) : Option (Int) := (T_sp_l1Least a1_ a2_).ev

noncomputable def A_sp_l1Least : Sh := (.cons (.dat (.int .i64)) (.cons (.dat (.int .i64)) .nil))

noncomputable def K_sp_l1Least : RetK := { acts := [], res := [.tmp 4], sh := (.cons (.dat (.int .i64)) .nil), obs := [] }

noncomputable def D_sp_l1Least : FD where
  A := A_sp_l1Least
  R := Int
  F := fun x => F_sp_l1Least x.1 x.2.1
  emb := fun r => ([.dat (.int .i64) r], [])

noncomputable def E_sp_l1Least : Env := envOf []

noncomputable def Z_sp_l1Least : Nat → Nat → List Nat := fun _ _ => []

noncomputable def O_sp_l1Least : List (Nat × LD) := []

noncomputable def C_sp_l1Least : Code := (f67.body).getD .skip

/-! ### 46 loop.example/g01110/spec.l11Dispersion -/

noncomputable def S_sp_l11Dispersion_2 (k : (List (List (Int))) × ((List (Int)) × (Int))) (v : (Int) × (Int)) : Tr (((Int) × (Int)) ⊕ (Int)) :=
  .t (decide (v.2 < k.2.2))
    (.g (inR k.2.2 (List.length k.2.1)) <|
      .g (inR (List.getD k.2.1 (Int.toNat k.2.2) (0 : Int)) (List.length k.1)) <|
      .g (inR v.2 (List.length k.2.1)) <|
      .g (inR (List.getD k.2.1 (Int.toNat v.2) (0 : Int)) (List.length (List.getD k.1 (Int.toNat (List.getD k.2.1 (Int.toNat k.2.2) (0 : Int))) ([] : List (Int))))) <|
      .c (Int) (F_sp_l1Least v.1 (List.getD (List.getD k.1 (Int.toNat (List.getD k.2.1 (Int.toNat k.2.2) (0 : Int))) ([] : List (Int))) (Int.toNat (List.getD k.2.1 (Int.toNat v.2) (0 : Int))) (0 : Int))) fun r10_ =>
      .l (.inl (r10_, (IntKind.wrap .i64 (v.2 + (1 : Int))))))
    (.l (.inr v.1))

noncomputable def L_sp_l11Dispersion_2 (k : (List (List (Int))) × ((List (Int)) × (Int))) (v : (Int) × (Int)) : Option (Int) := iter (fun v => (S_sp_l11Dispersion_2 k v).ev) v

noncomputable def DL_sp_l11Dispersion_2 : LD where
  head := { acts := [], S := { slots := [0, 1, 5, 6, 7], sh := (.cons (.dat (.slice (.slice (.int .i64)))) (.cons (.dat (.slice (.int .i64))) (.cons (.dat (.int .i64)) (.cons (.dat (.int .i64)) (.cons (.dat (.int .i64)) .nil))))), obs := [] } }
  exits := [(2, { acts := [], S := { slots := [0, 1, 5, 6], sh := (.cons (.dat (.slice (.slice (.int .i64)))) (.cons (.dat (.slice (.int .i64))) (.cons (.dat (.int .i64)) (.cons (.dat (.int .i64)) .nil)))), obs := [] } })]
  rets := { acts := [], S := { slots := [], sh := .nil, obs := [] } }
  K := (List (List (Int))) × ((List (Int)) × (Int))
  V := (Int) × (Int)
  R := Int
  join := fun k v => ((k.1, (k.2.1, (v.1, (k.2.2, (v.2, ()))))), ())
  sk := fun t => (t.1.1, (t.1.2.1, t.1.2.2.2.1))
  sv := fun t => (t.1.2.2.1, t.1.2.2.2.2.1)
  step := S_sp_l11Dispersion_2
  leaf := fun k r => .l (.exit 2 (mkSt ({ slots := [0, 1, 5, 6], sh := (.cons (.dat (.slice (.slice (.int .i64)))) (.cons (.dat (.slice (.int .i64))) (.cons (.dat (.int .i64)) (.cons (.dat (.int .i64)) .nil)))), obs := [] }) ((k.1, (k.2.1, (r, (k.2.2, ())))), ())))

noncomputable def S_sp_l11Dispersion_0 (k : (List (List (Int))) × (List (Int))) (v : (Int) × (Int)) : Tr (((Int) × (Int)) ⊕ (Int)) :=
  .t (decide (v.2 < ((List.length k.2 : Nat) : Int)))
    (.c (Int) (L_sp_l11Dispersion_2 (k.1, (k.2, v.2)) (v.1, (0 : Int))) fun r15_ =>
      .l (.inl (r15_, (IntKind.wrap .i64 (v.2 + (1 : Int))))))
    (.l (.inr v.1))

noncomputable def L_sp_l11Dispersion_0 (k : (List (List (Int))) × (List (Int))) (v : (Int) × (Int)) : Option (Int) := iter (fun v => (S_sp_l11Dispersion_0 k v).ev) v

noncomputable def DL_sp_l11Dispersion_0 : LD where
  head := { acts := [], S := { slots := [0, 1, 5, 6], sh := (.cons (.dat (.slice (.slice (.int .i64)))) (.cons (.dat (.slice (.int .i64))) (.cons (.dat (.int .i64)) (.cons (.dat (.int .i64)) .nil)))), obs := [] } }
  exits := [(0, { acts := [], S := { slots := [5], sh := (.cons (.dat (.int .i64)) .nil), obs := [] } })]
  rets := { acts := [], S := { slots := [], sh := .nil, obs := [] } }
  K := (List (List (Int))) × (List (Int))
  V := (Int) × (Int)
  R := Int
  join := fun k v => ((k.1, (k.2, (v.1, (v.2, ())))), ())
  sk := fun t => (t.1.1, t.1.2.1)
  sv := fun t => (t.1.2.2.1, t.1.2.2.2.1)
  step := S_sp_l11Dispersion_0
  leaf := fun _ r => .l (.exit 0 (mkSt ({ slots := [5], sh := (.cons (.dat (.int .i64)) .nil), obs := [] }) ((r, ()), ())))

noncomputable def T_sp_l11Dispersion (a1_ : List (List (Int))) (a2_ : List (Int)) : Tr (Int) :=
  .g (inR (0 : Int) (List.length a2_)) <|
  .g (inR (List.getD a2_ (Int.toNat (0 : Int)) (0 : Int)) (List.length a1_)) <|
  .g (inR (1 : Int) (List.length a2_)) <|
  .g (inR (List.getD a2_ (Int.toNat (1 : Int)) (0 : Int)) (List.length (List.getD a1_ (Int.toNat (List.getD a2_ (Int.toNat (0 : Int)) (0 : Int))) ([] : List (Int))))) <|
  .c (Int) (L_sp_l11Dispersion_0 (a1_, a2_) ((List.getD (List.getD a1_ (Int.toNat (List.getD a2_ (Int.toNat (0 : Int)) (0 : Int))) ([] : List (Int))) (Int.toNat (List.getD a2_ (Int.toNat (1 : Int)) (0 : Int))) (0 : Int)), (0 : Int))) fun r17_ =>
  .l r17_

noncomputable def F_sp_l11Dispersion (a1_ : List (List (Int))) (a2_ : List (Int)) : Option (Int) := (T_sp_l11Dispersion a1_ a2_).ev

noncomputable def A_sp_l11Dispersion : Sh := (.cons (.dat (.slice (.slice (.int .i64)))) (.cons (.dat (.slice (.int .i64))) .nil))

noncomputable def K_sp_l11Dispersion : RetK := { acts := [], res := [.tmp 4], sh := (.cons (.dat (.int .i64)) .nil), obs := [] }

noncomputable def D_sp_l11Dispersion : FD where
  A := A_sp_l11Dispersion
  R := Int
  F := fun x => F_sp_l11Dispersion x.1 x.2.1
  emb := fun r => ([.dat (.int .i64) r], [])

noncomputable def E_sp_l11Dispersion : Env := envOf [(67, D_sp_l1Least)]

noncomputable def Z_sp_l11Dispersion : Nat → Nat → List Nat := fun _ _ => []

noncomputable def O_sp_l11Dispersion : List (Nat × LD) := [(2, DL_sp_l11Dispersion_2), (0, DL_sp_l11Dispersion_0)]

noncomputable def C_sp_l11Dispersion : Code := (f46.body).getD .skip

/-! ### 25 loop.example/g01110/spec.DispersionOf -/

noncomputable def T_sp_DispersionOf (a1_ : List (List (Int))) (a2_ : List (Int)) : Tr ((Int) × (Bool)) :=
  .c (Bool) (F_sp_l11Ground a1_) fun r1_ =>
  .t (!r1_)
    (.l ((0 : Int), false))
    (.t (decide (((List.length a2_ : Nat) : Int) < (2 : Int)))
        (.l ((0 : Int), false))
        (.c (Bool) (F_sp_l1Rising a2_ (0 : Int) (IntKind.wrap .i64 (((List.length a1_ : Nat) : Int) - (1 : Int)))) fun r2_ =>
          .t (!r2_)
            (.l ((0 : Int), false))
            (.c (Int) (F_sp_l11Dispersion a1_ a2_) fun r3_ =>
              .l (r3_, true))))

noncomputable def F_sp_DispersionOf (a1_ : List (List (Int))) (a2_ : List (Int)) : Option ((Int) × (Bool)) := (T_sp_DispersionOf a1_ a2_).ev

noncomputable def A_sp_DispersionOf : Sh := (.cons (.dat (.slice (.slice (.int .i64)))) (.cons (.dat (.slice (.int .i64))) .nil))

noncomputable def K_sp_DispersionOf : RetK := { acts := [], res := [.tmp 4, .tmp 5], sh := (.cons (.dat (.int .i64)) (.cons (.dat .bool) .nil)), obs := [] }

noncomputable def D_sp_DispersionOf : FD where
  A := A_sp_DispersionOf
  R := (Int) × (Bool)
  F := fun x => F_sp_DispersionOf x.1 x.2.1
  emb := fun r => ([.dat (.int .i64) r.1, .dat .bool r.2], [])

noncomputable def E_sp_DispersionOf : Env := envOf [(35, D_sp_l11Ground), (45, D_sp_l1Rising), (46, D_sp_l11Dispersion)]

noncomputable def Z_sp_DispersionOf : Nat → Nat → List Nat := fun _ _ => []

noncomputable def O_sp_DispersionOf : List (Nat × LD) := []

noncomputable def C_sp_DispersionOf : Code := (f25.body).getD .skip

/-! ### 47 loop.example/g01110/impl.isRising -/

noncomputable def S_im_isRising_0 (k : (List (Int)) × ((Int) × ((List (Int)) × (Int)))) (v : Int) : Tr ((Int) ⊕ ((Unit) ⊕ (Unit))) :=
  .t (decide (v < k.2.2.2))
    (.g (inR v (List.length k.2.2.1)) <|
      .c (Bool) (F_im_between (List.getD k.2.2.1 (Int.toNat v) (0 : Int)) (0 : Int) (IntKind.wrap .i64 (k.2.1 - (1 : Int)))) fun r6_ =>
      .t (!r6_)
        (.l (.inr (.inr ())))
        (.t (decide ((0 : Int) < v))
            (.g (inR (IntKind.wrap .i64 (v - (1 : Int))) (List.length k.1)) <|
              .t (decide ((List.getD k.2.2.1 (Int.toNat v) (0 : Int)) ≤ (List.getD k.1 (Int.toNat (IntKind.wrap .i64 (v - (1 : Int)))) (0 : Int))))
                (.l (.inr (.inr ())))
                (.l (.inl (IntKind.wrap .i64 (v + (1 : Int))))))
            (.l (.inl (IntKind.wrap .i64 (v + (1 : Int)))))))
    (.l (.inr (.inl ())))

noncomputable def L_im_isRising_0 (k : (List (Int)) × ((Int) × ((List (Int)) × (Int)))) (v : Int) : Option ((Unit) ⊕ (Unit)) := iter (fun v => (S_im_isRising_0 k v).ev) v

noncomputable def DL_im_isRising_0 : LD where
  head := { acts := [], S := { slots := [0, 1, 7, 8, 9], sh := (.cons (.dat (.slice (.int .i64))) (.cons (.dat (.int .i64)) (.cons (.dat (.slice (.int .i64))) (.cons (.dat (.int .i64)) (.cons (.dat (.int .i64)) .nil))))), obs := [] } }
  exits := [(0, { acts := [], S := { slots := [], sh := .nil, obs := [] } })]
  rets := { acts := [], S := { slots := [4], sh := (.cons (.dat .bool) .nil), obs := [] } }
  K := (List (Int)) × ((Int) × ((List (Int)) × (Int)))
  V := Int
  R := (Unit) ⊕ (Unit)
  join := fun k v => ((k.1, (k.2.1, (k.2.2.1, (k.2.2.2, (v, ()))))), ())
  sk := fun t => (t.1.1, (t.1.2.1, (t.1.2.2.1, t.1.2.2.2.1)))
  sv := fun t => t.1.2.2.2.2.1
  step := S_im_isRising_0
  leaf := fun _ r => .s (Unit) (Unit) r (fun _ => .l (.exit 0 (mkSt ({ slots := [], sh := .nil, obs := [] }) ((), ())))) (fun _ => .l (.ret (mkSt ({ slots := [4], sh := (.cons (.dat .bool) .nil), obs := [] }) ((false, ()), ()))))

noncomputable def T_im_isRising (a1_ : List (Int)) (a2_ : Int) : Tr (Bool) :=
  .c ((Unit) ⊕ (Unit)) (L_im_isRising_0 (a1_, (a2_, (a1_, ((List.length a1_ : Nat) : Int)))) (0 : Int)) fun r8_ =>
  .s (Unit) (Unit) r8_
    (fun _ => .l true)
    (fun _ => .l false)

noncomputable def F_im_isRising (a1_ : List (Int)) (a2_ : Int) : Option (Bool) := (T_im_isRising a1_ a2_).ev

noncomputable def A_im_isRising : Sh := (.cons (.dat (.slice (.int .i64))) (.cons (.dat (.int .i64)) .nil))

noncomputable def K_im_isRising : RetK := { acts := [], res := [.tmp 4], sh := (.cons (.dat .bool) .nil), obs := [] }

noncomputable def D_im_isRising : FD where
  A := A_im_isRising
  R := Bool
  F := fun x => F_im_isRising x.1 x.2.1
  emb := fun r => ([.dat .bool r], [])

noncomputable def E_im_isRising : Env := envOf [(53, D_im_between)]

noncomputable def Z_im_isRising : Nat → Nat → List Nat := fun _ _ => []

noncomputable def O_im_isRising : List (Nat × LD) := [(0, DL_im_isRising_0)]

noncomputable def C_im_isRising : Code := (f47.body).getD .skip

/-! ### 48 loop.example/g01110/impl.dispersion -/

noncomputable def S_im_dispersion_2 (k : (List (List (Int))) × ((List (Int)) × ((Int) × ((List (Int)) × ((Int) × ((Int) × ((List (Int)) × (Int)))))))) (v : (Int) × (Int)) : Tr (((Int) × (Int)) ⊕ (Int)) :=
  .t (decide (v.2 < k.2.2.2.2.2.2.2))
    (.g (inR v.2 (List.length k.2.2.2.2.2.2.1)) <|
      .g (inR k.2.2.1 (List.length k.1)) <|
      .g (inR (List.getD k.2.2.2.2.2.2.1 (Int.toNat v.2) (0 : Int)) (List.length (List.getD k.1 (Int.toNat k.2.2.1) ([] : List (Int))))) <|
      .l (.inl ((if (List.getD (List.getD k.1 (Int.toNat k.2.2.1) ([] : List (Int))) (Int.toNat (List.getD k.2.2.2.2.2.2.1 (Int.toNat v.2) (0 : Int))) (0 : Int)) < v.1 then (List.getD (List.getD k.1 (Int.toNat k.2.2.1) ([] : List (Int))) (Int.toNat (List.getD k.2.2.2.2.2.2.1 (Int.toNat v.2) (0 : Int))) (0 : Int)) else v.1), (IntKind.wrap .i64 (v.2 + (1 : Int))))))
    (.l (.inr v.1))

noncomputable def L_im_dispersion_2 (k : (List (List (Int))) × ((List (Int)) × ((Int) × ((List (Int)) × ((Int) × ((Int) × ((List (Int)) × (Int)))))))) (v : (Int) × (Int)) : Option (Int) := iter (fun v => (S_im_dispersion_2 k v).ev) v

noncomputable def DL_im_dispersion_2 : LD where
  head := { acts := [], S := { slots := [0, 1, 5, 7, 10, 11, 12, 19, 20, 21], sh := (.cons (.dat (.slice (.slice (.int .i64)))) (.cons (.dat (.slice (.int .i64))) (.cons (.dat (.int .i64)) (.cons (.dat (.int .i64)) (.cons (.dat (.slice (.int .i64))) (.cons (.dat (.int .i64)) (.cons (.dat (.int .i64)) (.cons (.dat (.slice (.int .i64))) (.cons (.dat (.int .i64)) (.cons (.dat (.int .i64)) .nil)))))))))), obs := [] } }
  exits := [(2, { acts := [], S := { slots := [0, 1, 5, 10, 11, 12], sh := (.cons (.dat (.slice (.slice (.int .i64)))) (.cons (.dat (.slice (.int .i64))) (.cons (.dat (.int .i64)) (.cons (.dat (.slice (.int .i64))) (.cons (.dat (.int .i64)) (.cons (.dat (.int .i64)) .nil)))))), obs := [] } })]
  rets := { acts := [], S := { slots := [], sh := .nil, obs := [] } }
  K := (List (List (Int))) × ((List (Int)) × ((Int) × ((List (Int)) × ((Int) × ((Int) × ((List (Int)) × (Int)))))))
  V := (Int) × (Int)
  R := Int
  join := fun k v => ((k.1, (k.2.1, (v.1, (k.2.2.1, (k.2.2.2.1, (k.2.2.2.2.1, (k.2.2.2.2.2.1, (k.2.2.2.2.2.2.1, (k.2.2.2.2.2.2.2, (v.2, ())))))))))), ())
  sk := fun t => (t.1.1, (t.1.2.1, (t.1.2.2.2.1, (t.1.2.2.2.2.1, (t.1.2.2.2.2.2.1, (t.1.2.2.2.2.2.2.1, (t.1.2.2.2.2.2.2.2.1, t.1.2.2.2.2.2.2.2.2.1)))))))
  sv := fun t => (t.1.2.2.1, t.1.2.2.2.2.2.2.2.2.2.1)
  step := S_im_dispersion_2
  leaf := fun k r => .l (.exit 2 (mkSt ({ slots := [0, 1, 5, 10, 11, 12], sh := (.cons (.dat (.slice (.slice (.int .i64)))) (.cons (.dat (.slice (.int .i64))) (.cons (.dat (.int .i64)) (.cons (.dat (.slice (.int .i64))) (.cons (.dat (.int .i64)) (.cons (.dat (.int .i64)) .nil)))))), obs := [] }) ((k.1, (k.2.1, (r, (k.2.2.2.1, (k.2.2.2.2.1, (k.2.2.2.2.2.1, ())))))), ())))

noncomputable def S_im_dispersion_0 (k : (List (List (Int))) × ((List (Int)) × ((List (Int)) × (Int)))) (v : (Int) × (Int)) : Tr (((Int) × (Int)) ⊕ (Int)) :=
  .t (decide (v.2 < k.2.2.2))
    (.g (inR v.2 (List.length k.2.2.1)) <|
      .g (decide ((0 : Int) ≤ v.2) && decide (v.2 ≤ ((List.length k.2.1 : Nat) : Int))) <|
      .c (Int) (L_im_dispersion_2 (k.1, (k.2.1, ((List.getD k.2.2.1 (Int.toNat v.2) (0 : Int)), (k.2.2.1, (k.2.2.2, (v.2, ((List.drop 0 (List.take (Int.toNat v.2) k.2.1)), ((List.length (List.drop 0 (List.take (Int.toNat v.2) k.2.1)) : Nat) : Int)))))))) (v.1, (0 : Int))) fun r23_ =>
      .l (.inl (r23_, (IntKind.wrap .i64 (v.2 + (1 : Int))))))
    (.l (.inr v.1))

noncomputable def L_im_dispersion_0 (k : (List (List (Int))) × ((List (Int)) × ((List (Int)) × (Int)))) (v : (Int) × (Int)) : Option (Int) := iter (fun v => (S_im_dispersion_0 k v).ev) v

noncomputable def DL_im_dispersion_0 : LD where
  head := { acts := [], S := { slots := [0, 1, 5, 10, 11, 12], sh := (.cons (.dat (.slice (.slice (.int .i64)))) (.cons (.dat (.slice (.int .i64))) (.cons (.dat (.int .i64)) (.cons (.dat (.slice (.int .i64))) (.cons (.dat (.int .i64)) (.cons (.dat (.int .i64)) .nil)))))), obs := [] } }
  exits := [(0, { acts := [], S := { slots := [5], sh := (.cons (.dat (.int .i64)) .nil), obs := [] } })]
  rets := { acts := [], S := { slots := [], sh := .nil, obs := [] } }
  K := (List (List (Int))) × ((List (Int)) × ((List (Int)) × (Int)))
  V := (Int) × (Int)
  R := Int
  join := fun k v => ((k.1, (k.2.1, (v.1, (k.2.2.1, (k.2.2.2, (v.2, ())))))), ())
  sk := fun t => (t.1.1, (t.1.2.1, (t.1.2.2.2.1, t.1.2.2.2.2.1)))
  sv := fun t => (t.1.2.2.1, t.1.2.2.2.2.2.1)
  step := S_im_dispersion_0
  leaf := fun _ r => .l (.exit 0 (mkSt ({ slots := [5], sh := (.cons (.dat (.int .i64)) .nil), obs := [] }) ((r, ()), ())))

noncomputable def T_im_dispersion (a1_ : List (List (Int))) (a2_ : List (Int)) : Tr (Int) :=
  .c (Int) (L_im_dispersion_0 (a1_, (a2_, (a2_, ((List.length a2_ : Nat) : Int)))) ((100 : Int), (0 : Int))) fun r25_ =>
  .l r25_

noncomputable def F_im_dispersion (a1_ : List (List (Int))) (a2_ : List (Int)) : Option (Int) := (T_im_dispersion a1_ a2_).ev

noncomputable def A_im_dispersion : Sh := (.cons (.dat (.slice (.slice (.int .i64)))) (.cons (.dat (.slice (.int .i64))) .nil))

noncomputable def K_im_dispersion : RetK := { acts := [], res := [.tmp 4], sh := (.cons (.dat (.int .i64)) .nil), obs := [] }

noncomputable def D_im_dispersion : FD where
  A := A_im_dispersion
  R := Int
  F := fun x => F_im_dispersion x.1 x.2.1
  emb := fun r => ([.dat (.int .i64) r], [])

noncomputable def E_im_dispersion : Env := envOf []

noncomputable def Z_im_dispersion : Nat → Nat → List Nat := fun _ _ => []

noncomputable def O_im_dispersion : List (Nat × LD) := [(2, DL_im_dispersion_2), (0, DL_im_dispersion_0)]

noncomputable def C_im_dispersion : Code := (f48.body).getD .skip

/-! ### 26 loop.example/g01110/impl.DispersionOf -/

noncomputable def T_im_DispersionOf (a1_ : List (List (Int))) (a2_ : List (Int)) : Tr ((Int) × (Bool)) :=
  .c (Bool) (F_im_IsGround a1_) fun r1_ =>
  .t (!r1_)
    (.l ((0 : Int), false))
    (.c (Bool) (F_im_isRising a2_ ((List.length a1_ : Nat) : Int)) fun r2_ =>
      .t (!r2_)
        (.l ((0 : Int), false))
        (.t (decide (((List.length a2_ : Nat) : Int) < (2 : Int)))
            (.l ((0 : Int), false))
            (.c (Int) (F_im_dispersion a1_ a2_) fun r3_ =>
              .l (r3_, true))))

noncomputable def F_im_DispersionOf (a1_ : List (List (Int))) (a2_ : List (Int)) : Option ((Int) × (Bool)) := (T_im_DispersionOf a1_ a2_).ev

noncomputable def A_im_DispersionOf : Sh := (.cons (.dat (.slice (.slice (.int .i64)))) (.cons (.dat (.slice (.int .i64))) .nil))

noncomputable def K_im_DispersionOf : RetK := { acts := [], res := [.tmp 4, .tmp 5], sh := (.cons (.dat (.int .i64)) (.cons (.dat .bool) .nil)), obs := [] }

noncomputable def D_im_DispersionOf : FD where
  A := A_im_DispersionOf
  R := (Int) × (Bool)
  F := fun x => F_im_DispersionOf x.1 x.2.1
  emb := fun r => ([.dat (.int .i64) r.1, .dat .bool r.2], [])

noncomputable def E_im_DispersionOf : Env := envOf [(13, D_im_IsGround), (47, D_im_isRising), (48, D_im_dispersion)]

noncomputable def Z_im_DispersionOf : Nat → Nat → List Nat := fun _ _ => []

noncomputable def O_im_DispersionOf : List (Nat × LD) := []

noncomputable def C_im_DispersionOf : Code := (f26.body).getD .skip

/-! ### 7 loop.example/g01110/laws.FnExactDispersionOf -/

noncomputable def T_lw_FnExactDispersionOf (a1_ : List (List (Int))) (a2_ : List (Int)) : Tr (Bool) :=
  .t (decide ((1048576 : Int) < ((List.length a2_ : Nat) : Int)))
    (.l true)
    (.c (Int) (F_lw_szIntSS a1_ (1048576 : Int)) fun r1_ =>
      .t (decide (r1_ < (0 : Int)))
        (.l true)
        (.c (List (List (Int))) (F_lw_toIntSS a1_) fun r2_ =>
          .c (List (Int)) (F_lw_toIntS a2_) fun r3_ =>
          .c ((Int) × (Bool)) (F_sp_DispersionOf r2_ r3_) fun r4_ =>
          .c (List (List (Int))) (F_lw_toIntSS a1_) fun r5_ =>
          .c (List (Int)) (F_lw_toIntS a2_) fun r6_ =>
          .c ((Int) × (Bool)) (F_im_DispersionOf r5_ r6_) fun r7_ =>
          .t (r7_.1 != r4_.1)
            (.l false)
            (.t (!(r7_.2 == r4_.2))
                (.l false)
                (.c (List (List (Int))) (F_lw_toIntSS a1_) fun r8_ =>
                  .c (Bool) (F_lw_eqIntSS r5_ r8_) fun r9_ =>
                  .t (!r9_)
                    (.l false)
                    (.c (List (Int)) (F_lw_toIntS a2_) fun r10_ =>
                      .c (Bool) (F_lw_eqIntS r6_ r10_) fun r11_ =>
                      .t (!r11_)
                        (.l false)
                        (.l true))))))

noncomputable def F_lw_FnExactDispersionOf (a1_ : List (List (Int))) (a2_ : List (Int)) : Option (Bool) := (T_lw_FnExactDispersionOf a1_ a2_).ev

noncomputable def A_lw_FnExactDispersionOf : Sh := (.cons (.dat (.slice (.slice (.int .i64)))) (.cons (.dat (.slice (.int .i64))) .nil))

noncomputable def K_lw_FnExactDispersionOf : RetK := { acts := [], res := [.tmp 4], sh := (.cons (.dat .bool) .nil), obs := [] }

noncomputable def D_lw_FnExactDispersionOf : FD where
  A := A_lw_FnExactDispersionOf
  R := Bool
  F := fun x => F_lw_FnExactDispersionOf x.1 x.2.1
  emb := fun r => ([.dat .bool r], [])

noncomputable def E_lw_FnExactDispersionOf : Env := envOf [(10, D_lw_szIntSS), (12, D_lw_toIntSS), (16, D_lw_toIntS), (25, D_sp_DispersionOf), (26, D_im_DispersionOf), (14, D_lw_eqIntSS), (18, D_lw_eqIntS)]

noncomputable def Z_lw_FnExactDispersionOf : Nat → Nat → List Nat := fun _ _ => []

noncomputable def O_lw_FnExactDispersionOf : List (Nat × LD) := []

noncomputable def C_lw_FnExactDispersionOf : Code := (f7.body).getD .skip

/-! ### 49 loop.example/g01110/laws.szField -/

noncomputable def T_lw_szField (a1_ : List (Int)) (a2_ : List (List (Int))) (a3_ : Int) : Tr (Int) :=
  .c (Int) (F_lw_szIntS a1_ a3_) fun r1_ =>
  .t (decide (r1_ < (0 : Int)))
    (.l (-1 : Int))
    (.c (Int) (F_lw_szIntSS a2_ r1_) fun r2_ =>
      .t (decide (r2_ < (0 : Int)))
        (.l (-1 : Int))
        (.l r2_))

noncomputable def F_lw_szField (a1_ : List (Int)) (a2_ : List (List (Int))) (a3_ : Int) : Option (Int) := (T_lw_szField a1_ a2_ a3_).ev

noncomputable def A_lw_szField : Sh := (.cons (.agg (.cons (.dat (.slice (.int .i64))) (.cons (.dat (.slice (.slice (.int .i64)))) .nil))) (.cons (.dat (.int .i64)) .nil))

noncomputable def K_lw_szField : RetK := { acts := [], res := [.tmp 4], sh := (.cons (.dat (.int .i64)) .nil), obs := [] }

noncomputable def D_lw_szField : FD where
  A := A_lw_szField
  R := Int
  F := fun x => F_lw_szField x.1.1 x.1.2.1 x.2.1
  emb := fun r => ([.dat (.int .i64) r], [])

noncomputable def E_lw_szField : Env := envOf [(34, D_lw_szIntS), (10, D_lw_szIntSS)]

noncomputable def Z_lw_szField : Nat → Nat → List Nat := fun _ _ => []

noncomputable def O_lw_szField : List (Nat × LD) := []

noncomputable def C_lw_szField : Code := (f49.body).getD .skip

/-! ### 27 loop.example/g01110/laws.szAtlas -/

noncomputable def T_lw_szAtlas (a1_ : List (Int)) (a2_ : List (List (Int))) (a3_ : List (Int)) (_a4_ : Int) (a5_ : Int) : Tr (Int) :=
  .c (Int) (F_lw_szField a1_ a2_ a5_) fun r1_ =>
  .t (decide (r1_ < (0 : Int)))
    (.l (-1 : Int))
    (.c (Int) (F_lw_szIntS a3_ r1_) fun r2_ =>
      .t (decide (r2_ < (0 : Int)))
        (.l (-1 : Int))
        (.l r2_))

noncomputable def F_lw_szAtlas (a1_ : List (Int)) (a2_ : List (List (Int))) (a3_ : List (Int)) (a4_ : Int) (a5_ : Int) : Option (Int) := (T_lw_szAtlas a1_ a2_ a3_ a4_ a5_).ev

noncomputable def A_lw_szAtlas : Sh := (.cons (.agg (.cons (.dat (.slice (.int .i64))) (.cons (.dat (.slice (.slice (.int .i64)))) (.cons (.dat (.slice (.int .i64))) (.cons (.dat (.int .i64)) .nil))))) (.cons (.dat (.int .i64)) .nil))

noncomputable def K_lw_szAtlas : RetK := { acts := [], res := [.tmp 4], sh := (.cons (.dat (.int .i64)) .nil), obs := [] }

noncomputable def D_lw_szAtlas : FD where
  A := A_lw_szAtlas
  R := Int
  F := fun x => F_lw_szAtlas x.1.1 x.1.2.1 x.1.2.2.1 x.1.2.2.2.1 x.2.1
  emb := fun r => ([.dat (.int .i64) r], [])

noncomputable def E_lw_szAtlas : Env := envOf [(49, D_lw_szField), (34, D_lw_szIntS)]

noncomputable def Z_lw_szAtlas : Nat → Nat → List Nat := fun _ _ => []

noncomputable def O_lw_szAtlas : List (Nat × LD) := []

noncomputable def C_lw_szAtlas : Code := (f27.body).getD .skip

/-! ### 51 loop.example/g01110/laws.toField -/

noncomputable def T_lw_toField (a1_ : List (Int)) (a2_ : List (List (Int))) : Tr ((List (Int)) × (List (List (Int)))) :=
  .c (List (Int)) (F_lw_toIntS a1_) fun r1_ =>
  .c (List (List (Int))) (F_lw_toIntSS a2_) fun r2_ =>
  .l (r1_, r2_)

noncomputable def F_lw_toField (a1_ : List (Int)) (a2_ : List (List (Int))) : Option ((List (Int)) × (List (List (Int)))) := (T_lw_toField a1_ a2_).ev

noncomputable def A_lw_toField : Sh := (.cons (.agg (.cons (.dat (.slice (.int .i64))) (.cons (.dat (.slice (.slice (.int .i64)))) .nil))) .nil)

noncomputable def K_lw_toField : RetK := { acts := [.fz 384, .fz 640], res := [.cell 2 49], sh := (.cons (.agg (.cons (.dat (.slice (.int .i64))) (.cons (.dat (.slice (.slice (.int .i64)))) .nil))) .nil), obs := [] }

noncomputable def D_lw_toField : FD where
  A := A_lw_toField
  R := (List (Int)) × (List (List (Int)))
  F := fun x => F_lw_toField x.1.1 x.1.2.1
  emb := fun r => ([.agg [.dat (.slice (.int .i64)) r.1, .dat (.slice (.slice (.int .i64))) r.2]], [])

noncomputable def E_lw_toField : Env := envOf [(16, D_lw_toIntS), (12, D_lw_toIntSS)]

noncomputable def Z_lw_toField : Nat → Nat → List Nat := fun _ _ => []

noncomputable def O_lw_toField : List (Nat × LD) := []

noncomputable def C_lw_toField : Code := (f51.body).getD .skip

/-! ### 29 loop.example/g01110/laws.toAtlas -/

noncomputable def T_lw_toAtlas (a1_ : List (Int)) (a2_ : List (List (Int))) (a3_ : List (Int)) (a4_ : Int) : Tr ((List (Int)) × ((List (List (Int))) × ((List (Int)) × (Int)))) :=
  .c ((List (Int)) × (List (List (Int)))) (F_lw_toField a1_ a2_) fun r1_ =>
  .c (List (Int)) (F_lw_toIntS a3_) fun r2_ =>
  .l (r1_.1, (r1_.2, (r2_, a4_)))

noncomputable def F_lw_toAtlas (a1_ : List (Int)) (a2_ : List (List (Int))) (a3_ : List (Int)) (a4_ : Int) : Option ((List (Int)) × ((List (List (Int))) × ((List (Int)) × (Int)))) := (T_lw_toAtlas a1_ a2_ a3_ a4_).ev

noncomputable def A_lw_toAtlas : Sh := (.cons (.agg (.cons (.dat (.slice (.int .i64))) (.cons (.dat (.slice (.slice (.int .i64)))) (.cons (.dat (.slice (.int .i64))) (.cons (.dat (.int .i64)) .nil))))) .nil)

noncomputable def K_lw_toAtlas : RetK := { acts := [.fz 640], res := [.cell 2 51], sh := (.cons (.agg (.cons (.dat (.slice (.int .i64))) (.cons (.dat (.slice (.slice (.int .i64)))) (.cons (.dat (.slice (.int .i64))) (.cons (.dat (.int .i64)) .nil))))) .nil), obs := [] }

noncomputable def D_lw_toAtlas : FD where
  A := A_lw_toAtlas
  R := (List (Int)) × ((List (List (Int))) × ((List (Int)) × (Int)))
  F := fun x => F_lw_toAtlas x.1.1 x.1.2.1 x.1.2.2.1 x.1.2.2.2.1
  emb := fun r => ([.agg [.dat (.slice (.int .i64)) r.1, .dat (.slice (.slice (.int .i64))) r.2.1, .dat (.slice (.int .i64)) r.2.2.1, .dat (.int .i64) r.2.2.2]], [])

noncomputable def E_lw_toAtlas : Env := envOf [(51, D_lw_toField), (16, D_lw_toIntS)]

noncomputable def Z_lw_toAtlas : Nat → Nat → List Nat := fun _ _ => []

noncomputable def O_lw_toAtlas : List (Nat × LD) := []

noncomputable def C_lw_toAtlas : Code := (f29.body).getD .skip

/-! ### 68 loop.example/g01110/spec.l2Good -/

noncomputable def S_sp_l2Good_0 (k : (Int) × ((List (Int)) × (List (List (Int))))) (v : Int) : Tr ((Int) ⊕ ((Unit) ⊕ (Unit))) :=
  .t (decide (v < ((List.length k.2.2 : Nat) : Int)))
    (.g (inR v (List.length k.2.2)) <|
      .c (Bool) (F_sp_l2Row (List.getD k.2.2 (Int.toNat v) ([] : List (Int))) k.1 (99 : Int)) fun r5_ =>
      .t (!r5_)
        (.l (.inr (.inr ())))
        (.l (.inl (IntKind.wrap .i64 (v + (1 : Int))))))
    (.l (.inr (.inl ())))

noncomputable def L_sp_l2Good_0 (k : (Int) × ((List (Int)) × (List (List (Int))))) (v : Int) : Option ((Unit) ⊕ (Unit)) := iter (fun v => (S_sp_l2Good_0 k v).ev) v

noncomputable def DL_sp_l2Good_0 : LD where
  head := { acts := [], S := { slots := [1, 3, 4], sh := (.cons (.box 1 0) (.cons (.dat (.int .i64)) (.cons (.dat (.int .i64)) .nil))), obs := [(1, .cells (.cons (.dat (.slice (.int .i64))) (.cons (.dat (.slice (.slice (.int .i64)))) .nil)))] } }
  exits := [(0, { acts := [], S := { slots := [1, 3], sh := (.cons (.box 1 0) (.cons (.dat (.int .i64)) .nil)), obs := [(1, .cells (.cons (.dat (.slice (.int .i64))) (.cons (.dat (.slice (.slice (.int .i64)))) .nil)))] } })]
  rets := { acts := [], S := { slots := [2], sh := (.cons (.dat .bool) .nil), obs := [] } }
  K := (Int) × ((List (Int)) × (List (List (Int))))
  V := Int
  R := (Unit) ⊕ (Unit)
  join := fun k v => (((), (k.1, (v, ()))), ((k.2.1, (k.2.2, ())), ()))
  sk := fun t => (t.1.2.1, (t.2.1.1, t.2.1.2.1))
  sv := fun t => t.1.2.2.1
  step := S_sp_l2Good_0
  leaf := fun k r => .s (Unit) (Unit) r (fun _ => .l (.exit 0 (mkSt ({ slots := [1, 3], sh := (.cons (.box 1 0) (.cons (.dat (.int .i64)) .nil)), obs := [(1, .cells (.cons (.dat (.slice (.int .i64))) (.cons (.dat (.slice (.slice (.int .i64)))) .nil)))] }) (((), (k.1, ())), ((k.2.1, (k.2.2, ())), ()))))) (fun _ => .l (.ret (mkSt ({ slots := [2], sh := (.cons (.dat .bool) .nil), obs := [] }) ((false, ()), ()))))

noncomputable def T_sp_l2Good (a1_ : List (Int)) (a2_ : List (List (Int))) : Tr (Bool) :=
  .c ((Unit) ⊕ (Unit)) (L_sp_l2Good_0 (((List.length a1_ : Nat) : Int), (a1_, a2_)) (0 : Int)) fun r10_ =>
  .s (Unit) (Unit) r10_
    (fun _ => .c (Bool) (F_sp_l1In ((List.length a1_ : Nat) : Int) (1 : Int) (7 : Int)) fun r13_ =>
      .t r13_
        (.c (Bool) (F_sp_l2Row a1_ ((List.length a1_ : Nat) : Int) (99 : Int)) fun r14_ =>
          .t r14_
            (.l (decide (((List.length a2_ : Nat) : Int) ≤ (7 : Int))))
            (.l false))
        (.l false))
    (fun _ => .l false)

noncomputable def F_sp_l2Good (a1_ : List (Int)) (a2_ : List (List (Int))) : Option (Bool) := (T_sp_l2Good a1_ a2_).ev

noncomputable def A_sp_l2Good : Sh := (.cons (.agg (.cons (.dat (.slice (.int .i64))) (.cons (.dat (.slice (.slice (.int .i64)))) .nil))) .nil)

noncomputable def K_sp_l2Good : RetK := { acts := [], res := [.tmp 2], sh := (.cons (.dat .bool) .nil), obs := [] }

noncomputable def D_sp_l2Good : FD where
  A := A_sp_l2Good
  R := Bool
  F := fun x => F_sp_l2Good x.1.1 x.1.2.1
  emb := fun r => ([.dat .bool r], [])

noncomputable def E_sp_l2Good : Env := envOf [(59, D_sp_l2Row), (62, D_sp_l1In)]

noncomputable def Z_sp_l2Good : Nat → Nat → List Nat := fun _ _ => []

noncomputable def O_sp_l2Good : List (Nat × LD) := [(0, DL_sp_l2Good_0)]

noncomputable def C_sp_l2Good : Code := (f68.body).getD .skip

/-! ### 69 loop.example/g01110/spec.l2Set -/

noncomputable def T_sp_l2Set (a1_ : List (Int)) (_a2_ : List (List (Int))) (a3_ : List (Int)) : Tr (Bool) :=
  .c (Bool) (F_sp_l1Rising a3_ (0 : Int) (IntKind.wrap .i64 (((List.length a1_ : Nat) : Int) - (1 : Int)))) fun r1_ =>
  .l r1_

noncomputable def F_sp_l2Set (a1_ : List (Int)) (a2_ : List (List (Int))) (a3_ : List (Int)) : Option (Bool) := (T_sp_l2Set a1_ a2_ a3_).ev

noncomputable def A_sp_l2Set : Sh := (.cons (.agg (.cons (.dat (.slice (.int .i64))) (.cons (.dat (.slice (.slice (.int .i64)))) .nil))) (.cons (.dat (.slice (.int .i64))) .nil))

noncomputable def K_sp_l2Set : RetK := { acts := [], res := [.tmp 4], sh := (.cons (.dat .bool) .nil), obs := [] }

noncomputable def D_sp_l2Set : FD where
  A := A_sp_l2Set
  R := Bool
  F := fun x => F_sp_l2Set x.1.1 x.1.2.1 x.2.1
  emb := fun r => ([.dat .bool r], [])

noncomputable def E_sp_l2Set : Env := envOf [(45, D_sp_l1Rising)]

noncomputable def Z_sp_l2Set : Nat → Nat → List Nat := fun _ _ => []

noncomputable def O_sp_l2Set : List (Nat × LD) := []

noncomputable def C_sp_l2Set : Code := (f69.body).getD .skip

/-! ### 50 loop.example/g01110/spec.l12Good -/

noncomputable def T_sp_l12Good (a1_ : List (Int)) (a2_ : List (List (Int))) (a3_ : List (Int)) (a4_ : Int) : Tr (Bool) :=
  .c (Bool) (F_sp_l2Good a1_ a2_) fun r1_ =>
  .t r1_
    (.c (Bool) (F_sp_l2Set a1_ a2_ a3_) fun r2_ =>
      .t r2_
        (.c (Bool) (F_sp_l1In a4_ (0 : Int) (1000 : Int)) fun r3_ =>
          .l r3_)
        (.l false))
    (.l false)

noncomputable def F_sp_l12Good (a1_ : List (Int)) (a2_ : List (List (Int))) (a3_ : List (Int)) (a4_ : Int) : Option (Bool) := (T_sp_l12Good a1_ a2_ a3_ a4_).ev

noncomputable def A_sp_l12Good : Sh := (.cons (.agg (.cons (.dat (.slice (.int .i64))) (.cons (.dat (.slice (.slice (.int .i64)))) (.cons (.dat (.slice (.int .i64))) (.cons (.dat (.int .i64)) .nil))))) .nil)

noncomputable def K_sp_l12Good : RetK := { acts := [], res := [.tmp 2], sh := (.cons (.dat .bool) .nil), obs := [] }

noncomputable def D_sp_l12Good : FD where
  A := A_sp_l12Good
  R := Bool
  F := fun x => F_sp_l12Good x.1.1 x.1.2.1 x.1.2.2.1 x.1.2.2.2.1
  emb := fun r => ([.dat .bool r], [])

noncomputable def E_sp_l12Good : Env := envOf [(68, D_sp_l2Good), (69, D_sp_l2Set), (62, D_sp_l1In)]

noncomputable def Z_sp_l12Good : Nat → Nat → List Nat := fun _ _ => []

noncomputable def O_sp_l12Good : List (Nat × LD) := []

noncomputable def C_sp_l12Good : Code := (f50.body).getD .skip

/-! ### 28 loop.example/g01110/spec.IsAtlas -/

noncomputable def T_sp_IsAtlas (a1_ : List (Int)) (a2_ : List (List (Int))) (a3_ : List (Int)) (a4_ : Int) : Tr (Bool) :=
  .c (Bool) (F_sp_l12Good a1_ a2_ a3_ a4_) fun r1_ =>
  .l r1_

noncomputable def F_sp_IsAtlas (a1_ : List (Int)) (a2_ : List (List (Int))) (a3_ : List (Int)) (a4_ : Int) : Option (Bool) := (T_sp_IsAtlas a1_ a2_ a3_ a4_).ev

noncomputable def A_sp_IsAtlas : Sh := (.cons (.agg (.cons (.dat (.slice (.int .i64))) (.cons (.dat (.slice (.slice (.int .i64)))) (.cons (.dat (.slice (.int .i64))) (.cons (.dat (.int .i64)) .nil))))) .nil)

noncomputable def K_sp_IsAtlas : RetK := { acts := [], res := [.tmp 2], sh := (.cons (.dat .bool) .nil), obs := [] }

noncomputable def D_sp_IsAtlas : FD where
  A := A_sp_IsAtlas
  R := Bool
  F := fun x => F_sp_IsAtlas x.1.1 x.1.2.1 x.1.2.2.1 x.1.2.2.2.1
  emb := fun r => ([.dat .bool r], [])

noncomputable def E_sp_IsAtlas : Env := envOf [(50, D_sp_l12Good)]

noncomputable def Z_sp_IsAtlas : Nat → Nat → List Nat := fun _ _ => []

noncomputable def O_sp_IsAtlas : List (Nat × LD) := []

noncomputable def C_sp_IsAtlas : Code := (f28.body).getD .skip

/-! ### 75 slices.IndexFunc[[][]int,[]int] -/

noncomputable def S_slices_IndexFunc_SSint_Sint_0 (k : (List (List (Int))) × (((HL [(.slice (.int .i64))] → Option (Bool))) × (Int))) (v : Int) : Tr ((Int) ⊕ ((Unit) ⊕ (Int))) :=
  .t (decide (v < k.2.2))
    (.g (inR v (List.length k.1)) <|
      .c (Bool) (k.2.1 ((List.getD k.1 (Int.toNat v) ([] : List (Int))), ())) fun r5_ =>
      .t r5_
        (.l (.inr (.inr v)))
        (.l (.inl (IntKind.wrap .i64 (v + (1 : Int))))))
    (.l (.inr (.inl ())))

noncomputable def L_slices_IndexFunc_SSint_Sint_0 (k : (List (List (Int))) × (((HL [(.slice (.int .i64))] → Option (Bool))) × (Int))) (v : Int) : Option ((Unit) ⊕ (Int)) := iter (fun v => (S_slices_IndexFunc_SSint_Sint_0 k v).ev) v

noncomputable def DL_slices_IndexFunc_SSint_Sint_0 : LD where
  head := { acts := [], S := { slots := [0, 1, 7, 8], sh := (.cons (.dat (.slice (.slice (.int .i64)))) (.cons (.clo [(.slice (.int .i64))] .bool) (.cons (.dat (.int .i64)) (.cons (.dat (.int .i64)) .nil)))), obs := [] } }
  exits := [(0, { acts := [], S := { slots := [], sh := .nil, obs := [] } })]
  rets := { acts := [], S := { slots := [4], sh := (.cons (.dat (.int .i64)) .nil), obs := [] } }
  K := (List (List (Int))) × (((HL [(.slice (.int .i64))] → Option (Bool))) × (Int))
  V := Int
  R := (Unit) ⊕ (Int)
  join := fun k v => ((k.1, (k.2.1, (k.2.2, (v, ())))), ())
  sk := fun t => (t.1.1, (t.1.2.1, t.1.2.2.1))
  sv := fun t => t.1.2.2.2.1
  step := S_slices_IndexFunc_SSint_Sint_0
  leaf := fun _ r => .s (Unit) (Int) r (fun _ => .l (.exit 0 (mkSt ({ slots := [], sh := .nil, obs := [] }) ((), ())))) (fun b => .l (.ret (mkSt ({ slots := [4], sh := (.cons (.dat (.int .i64)) .nil), obs := [] }) ((b, ()), ()))))

noncomputable def T_slices_IndexFunc_SSint_Sint (a1_ : List (List (Int))) (a2_ : (HL [(.slice (.int .i64))] → Option (Bool))) : Tr (Int) :=
  .c ((Unit) ⊕ (Int)) (L_slices_IndexFunc_SSint_Sint_0 (a1_, (a2_, ((List.length a1_ : Nat) : Int))) (0 : Int)) fun r7_ =>
  .s (Unit) (Int) r7_
    (fun _ => .l (-1 : Int))
    (fun r9_ => .l r9_)

noncomputable def F_slices_IndexFunc_SSint_Sint (a1_ : List (List (Int))) (a2_ : (HL [(.slice (.int .i64))] → Option (Bool))) : Option (Int) := (T_slices_IndexFunc_SSint_Sint a1_ a2_).ev

noncomputable def A_slices_IndexFunc_SSint_Sint : Sh := (.cons (.dat (.slice (.slice (.int .i64)))) (.cons (.clo [(.slice (.int .i64))] .bool) .nil))

noncomputable def K_slices_IndexFunc_SSint_Sint : RetK := { acts := [], res := [.tmp 4], sh := (.cons (.dat (.int .i64)) .nil), obs := [] }

noncomputable def D_slices_IndexFunc_SSint_Sint : FD where
  A := A_slices_IndexFunc_SSint_Sint
  R := Int
  F := fun x => F_slices_IndexFunc_SSint_Sint x.1 x.2.1
  emb := fun r => ([.dat (.int .i64) r], [])

noncomputable def E_slices_IndexFunc_SSint_Sint : Env := envOf []

noncomputable def Z_slices_IndexFunc_SSint_Sint : Nat → Nat → List Nat := fun _ _ => []

noncomputable def O_slices_IndexFunc_SSint_Sint : List (Nat × LD) := [(0, DL_slices_IndexFunc_SSint_Sint_0)]

noncomputable def C_slices_IndexFunc_SSint_Sint : Code := (f75.body).getD .skip

/-! ### 70 slices.ContainsFunc[[][]int,[]int] -/

noncomputable def T_slices_ContainsFunc_SSint_Sint (a1_ : List (List (Int))) (a2_ : (HL [(.slice (.int .i64))] → Option (Bool))) : Tr (Bool) :=
  .c (Int) (F_slices_IndexFunc_SSint_Sint a1_ a2_) fun r1_ =>
  .l (decide ((0 : Int) ≤ r1_))

noncomputable def F_slices_ContainsFunc_SSint_Sint (a1_ : List (List (Int))) (a2_ : (HL [(.slice (.int .i64))] → Option (Bool))) : Option (Bool) := (T_slices_ContainsFunc_SSint_Sint a1_ a2_).ev

noncomputable def A_slices_ContainsFunc_SSint_Sint : Sh := (.cons (.dat (.slice (.slice (.int .i64)))) (.cons (.clo [(.slice (.int .i64))] .bool) .nil))

noncomputable def K_slices_ContainsFunc_SSint_Sint : RetK := { acts := [], res := [.tmp 4], sh := (.cons (.dat .bool) .nil), obs := [] }

noncomputable def D_slices_ContainsFunc_SSint_Sint : FD where
  A := A_slices_ContainsFunc_SSint_Sint
  R := Bool
  F := fun x => F_slices_ContainsFunc_SSint_Sint x.1 x.2.1
  emb := fun r => ([.dat .bool r], [])

noncomputable def E_slices_ContainsFunc_SSint_Sint : Env := envOf [(75, D_slices_IndexFunc_SSint_Sint)]

noncomputable def Z_slices_ContainsFunc_SSint_Sint : Nat → Nat → List Nat := fun _ _ => []

noncomputable def O_slices_ContainsFunc_SSint_Sint : List (Nat × LD) := []

noncomputable def C_slices_ContainsFunc_SSint_Sint : Code := (f70.body).getD .skip

/-! ### 71 loop.example/g01110/impl.IsField$1 -/

noncomputable def T_im_IsField_1 (a1_ : List (Int)) (a2_ : List (Int)) (_a3_ : List (List (Int))) : Tr (Bool) :=
  .t (((List.length a1_ : Nat) : Int) != ((List.length a2_ : Nat) : Int))
    (.l true)
    (.c (Bool) (F_im_areBetween a1_ (0 : Int) (99 : Int)) fun r1_ =>
      .l (!r1_))

noncomputable def F_im_IsField_1 (a1_ : List (Int)) (a2_ : List (Int)) (a3_ : List (List (Int))) : Option (Bool) := (T_im_IsField_1 a1_ a2_ a3_).ev

noncomputable def A_im_IsField_1 : Sh := (.cons (.dat (.slice (.int .i64))) (.cons (.ptr (.cons (.dat (.slice (.int .i64))) (.cons (.dat (.slice (.slice (.int .i64)))) .nil))) .nil))

noncomputable def K_im_IsField_1 : RetK := { acts := [], res := [.tmp 3], sh := (.cons (.dat .bool) .nil), obs := [] }

noncomputable def D_im_IsField_1 : FD where
  A := A_im_IsField_1
  R := Bool
  F := fun x => F_im_IsField_1 x.1 x.2.1.1 x.2.1.2.1
  emb := fun r => ([.dat .bool r], [])

noncomputable def E_im_IsField_1 : Env := envOf [(36, D_im_areBetween)]

noncomputable def Z_im_IsField_1 : Nat → Nat → List Nat := fun _ _ => []

noncomputable def O_im_IsField_1 : List (Nat × LD) := []

noncomputable def C_im_IsField_1 : Code := (f71.body).getD .skip

/-! ### 52 loop.example/g01110/impl.IsField -/

noncomputable def T_im_IsField (a1_ : List (Int)) (a2_ : List (List (Int))) : Tr (Bool) :=
  .c (Bool) (F_im_between ((List.length a1_ : Nat) : Int) (1 : Int) (7 : Int)) fun r1_ =>
  .t r1_
    (.c (Bool) (F_im_areBetween a1_ (0 : Int) (99 : Int)) fun r2_ =>
      .t r2_
        (.t (decide (((List.length a2_ : Nat) : Int) ≤ (7 : Int)))
            (.c (Bool) (F_slices_ContainsFunc_SSint_Sint a2_ (fun h3_ => Option.bind (F_im_IsField_1 h3_.1 a1_ a2_) fun y4_ => some y4_)) fun r5_ =>
              .l (!r5_))
            (.l false))
        (.l false))
    (.l false)

noncomputable def F_im_IsField (a1_ : List (Int)) (a2_ : List (List (Int))) : Option (Bool) := (T_im_IsField a1_ a2_).ev

noncomputable def A_im_IsField : Sh := (.cons (.agg (.cons (.dat (.slice (.int .i64))) (.cons (.dat (.slice (.slice (.int .i64)))) .nil))) .nil)

noncomputable def K_im_IsField : RetK := { acts := [], res := [.tmp 2], sh := (.cons (.dat .bool) .nil), obs := [] }

noncomputable def D_im_IsField : FD where
  A := A_im_IsField
  R := Bool
  F := fun x => F_im_IsField x.1.1 x.1.2.1
  emb := fun r => ([.dat .bool r], [])

noncomputable def E_im_IsField : Env := envOf [(53, D_im_between), (36, D_im_areBetween), (70, D_slices_ContainsFunc_SSint_Sint), (71, D_im_IsField_1)]

noncomputable def Z_im_IsField : Nat → Nat → List Nat := fun _ _ => []

noncomputable def O_im_IsField : List (Nat × LD) := []

noncomputable def C_im_IsField : Code := (f52.body).getD .skip

/-! ### 30 loop.example/g01110/impl.IsAtlas -/

noncomputable def T_im_IsAtlas (a1_ : List (Int)) (a2_ : List (List (Int))) (a3_ : List (Int)) (a4_ : Int) : Tr (Bool) :=
  .c (Bool) (F_im_IsField a1_ a2_) fun r1_ =>
  .t r1_
    (.c (Bool) (F_im_isRising a3_ ((List.length a1_ : Nat) : Int)) fun r2_ =>
      .t r2_
        (.c (Bool) (F_im_between a4_ (0 : Int) (1000 : Int)) fun r3_ =>
          .l r3_)
        (.l false))
    (.l false)

noncomputable def F_im_IsAtlas (a1_ : List (Int)) (a2_ : List (List (Int))) (a3_ : List (Int)) (a4_ : Int) : Option (Bool) := (T_im_IsAtlas a1_ a2_ a3_ a4_).ev

noncomputable def A_im_IsAtlas : Sh := (.cons (.agg (.cons (.dat (.slice (.int .i64))) (.cons (.dat (.slice (.slice (.int .i64)))) (.cons (.dat (.slice (.int .i64))) (.cons (.dat (.int .i64)) .nil))))) .nil)

noncomputable def K_im_IsAtlas : RetK := { acts := [], res := [.tmp 2], sh := (.cons (.dat .bool) .nil), obs := [] }

noncomputable def D_im_IsAtlas : FD where
  A := A_im_IsAtlas
  R := Bool
  F := fun x => F_im_IsAtlas x.1.1 x.1.2.1 x.1.2.2.1 x.1.2.2.2.1
  emb := fun r => ([.dat .bool r], [])

noncomputable def E_im_IsAtlas : Env := envOf [(52, D_im_IsField), (47, D_im_isRising), (53, D_im_between)]

noncomputable def Z_im_IsAtlas : Nat → Nat → List Nat := fun _ _ => []

noncomputable def O_im_IsAtlas : List (Nat × LD) := []

noncomputable def C_im_IsAtlas : Code := (f30.body).getD .skip

/-! ### 54 loop.example/g01110/laws.eqField -/

noncomputable def T_lw_eqField (a1_ : List (Int)) (a2_ : List (List (Int))) (a3_ : List (Int)) (a4_ : List (List (Int))) : Tr (Bool) :=
  .c (Bool) (F_lw_eqIntS a1_ a3_) fun r1_ =>
  .t (!r1_)
    (.l false)
    (.c (Bool) (F_lw_eqIntSS a2_ a4_) fun r2_ =>
      .t (!r2_)
        (.l false)
        (.l true))

noncomputable def F_lw_eqField (a1_ : List (Int)) (a2_ : List (List (Int))) (a3_ : List (Int)) (a4_ : List (List (Int))) : Option (Bool) := (T_lw_eqField a1_ a2_ a3_ a4_).ev

noncomputable def A_lw_eqField : Sh := (.cons (.agg (.cons (.dat (.slice (.int .i64))) (.cons (.dat (.slice (.slice (.int .i64)))) .nil))) (.cons (.agg (.cons (.dat (.slice (.int .i64))) (.cons (.dat (.slice (.slice (.int .i64)))) .nil))) .nil))

noncomputable def K_lw_eqField : RetK := { acts := [], res := [.tmp 4], sh := (.cons (.dat .bool) .nil), obs := [] }

noncomputable def D_lw_eqField : FD where
  A := A_lw_eqField
  R := Bool
  F := fun x => F_lw_eqField x.1.1 x.1.2.1 x.2.1.1 x.2.1.2.1
  emb := fun r => ([.dat .bool r], [])

noncomputable def E_lw_eqField : Env := envOf [(18, D_lw_eqIntS), (14, D_lw_eqIntSS)]

noncomputable def Z_lw_eqField : Nat → Nat → List Nat := fun _ _ => []

noncomputable def O_lw_eqField : List (Nat × LD) := []

noncomputable def C_lw_eqField : Code := (f54.body).getD .skip

/-! ### 31 loop.example/g01110/laws.eqAtlas -/

noncomputable def T_lw_eqAtlas (a1_ : List (Int)) (a2_ : List (List (Int))) (a3_ : List (Int)) (a4_ : Int) (a5_ : List (Int)) (a6_ : List (List (Int))) (a7_ : List (Int)) (a8_ : Int) : Tr (Bool) :=
  .c (Bool) (F_lw_eqField a1_ a2_ a5_ a6_) fun r1_ =>
  .t (!r1_)
    (.l false)
    (.c (Bool) (F_lw_eqIntS a3_ a7_) fun r2_ =>
      .t (!r2_)
        (.l false)
        (.t (a4_ != a8_)
            (.l false)
            (.l true)))

noncomputable def F_lw_eqAtlas (a1_ : List (Int)) (a2_ : List (List (Int))) (a3_ : List (Int)) (a4_ : Int) (a5_ : List (Int)) (a6_ : List (List (Int))) (a7_ : List (Int)) (a8_ : Int) : Option (Bool) := (T_lw_eqAtlas a1_ a2_ a3_ a4_ a5_ a6_ a7_ a8_).ev

noncomputable def A_lw_eqAtlas : Sh := (.cons (.agg (.cons (.dat (.slice (.int .i64))) (.cons (.dat (.slice (.slice (.int .i64)))) (.cons (.dat (.slice (.int .i64))) (.cons (.dat (.int .i64)) .nil))))) (.cons (.agg (.cons (.dat (.slice (.int .i64))) (.cons (.dat (.slice (.slice (.int .i64)))) (.cons (.dat (.slice (.int .i64))) (.cons (.dat (.int .i64)) .nil))))) .nil))

noncomputable def K_lw_eqAtlas : RetK := { acts := [], res := [.tmp 4], sh := (.cons (.dat .bool) .nil), obs := [] }

noncomputable def D_lw_eqAtlas : FD where
  A := A_lw_eqAtlas
  R := Bool
  F := fun x => F_lw_eqAtlas x.1.1 x.1.2.1 x.1.2.2.1 x.1.2.2.2.1 x.2.1.1 x.2.1.2.1 x.2.1.2.2.1 x.2.1.2.2.2.1
  emb := fun r => ([.dat .bool r], [])

noncomputable def E_lw_eqAtlas : Env := envOf [(54, D_lw_eqField), (18, D_lw_eqIntS)]

noncomputable def Z_lw_eqAtlas : Nat → Nat → List Nat := fun _ _ => []

noncomputable def O_lw_eqAtlas : List (Nat × LD) := []

noncomputable def C_lw_eqAtlas : Code := (f31.body).getD .skip

/-! ### 8 loop.example/g01110/laws.FnExactIsAtlas -/

noncomputable def T_lw_FnExactIsAtlas (a1_ : List (Int)) (a2_ : List (List (Int))) (a3_ : List (Int)) (a4_ : Int) : Tr (Bool) :=
  .c (Int) (F_lw_szAtlas a1_ a2_ a3_ a4_ (1048576 : Int)) fun r1_ =>
  .t (decide (r1_ < (0 : Int)))
    (.l true)
    (.c ((List (Int)) × ((List (List (Int))) × ((List (Int)) × (Int)))) (F_lw_toAtlas a1_ a2_ a3_ a4_) fun r2_ =>
      .c (Bool) (F_sp_IsAtlas r2_.1 r2_.2.1 r2_.2.2.1 r2_.2.2.2) fun r3_ =>
      .c ((List (Int)) × ((List (List (Int))) × ((List (Int)) × (Int)))) (F_lw_toAtlas a1_ a2_ a3_ a4_) fun r4_ =>
      .c (Bool) (F_im_IsAtlas r4_.1 r4_.2.1 r4_.2.2.1 r4_.2.2.2) fun r5_ =>
      .t (!(r5_ == r3_))
        (.l false)
        (.c ((List (Int)) × ((List (List (Int))) × ((List (Int)) × (Int)))) (F_lw_toAtlas a1_ a2_ a3_ a4_) fun r6_ =>
          .c (Bool) (F_lw_eqAtlas r4_.1 r4_.2.1 r4_.2.2.1 r4_.2.2.2 r6_.1 r6_.2.1 r6_.2.2.1 r6_.2.2.2) fun r7_ =>
          .t (!r7_)
            (.l false)
            (.l true)))

noncomputable def F_lw_FnExactIsAtlas (a1_ : List (Int)) (a2_ : List (List (Int))) (a3_ : List (Int)) (a4_ : Int) : Option (Bool) := (T_lw_FnExactIsAtlas a1_ a2_ a3_ a4_).ev

noncomputable def A_lw_FnExactIsAtlas : Sh := (.cons (.agg (.cons (.dat (.slice (.int .i64))) (.cons (.dat (.slice (.slice (.int .i64)))) (.cons (.dat (.slice (.int .i64))) (.cons (.dat (.int .i64)) .nil))))) .nil)

noncomputable def K_lw_FnExactIsAtlas : RetK := { acts := [], res := [.tmp 2], sh := (.cons (.dat .bool) .nil), obs := [] }

noncomputable def D_lw_FnExactIsAtlas : FD where
  A := A_lw_FnExactIsAtlas
  R := Bool
  F := fun x => F_lw_FnExactIsAtlas x.1.1 x.1.2.1 x.1.2.2.1 x.1.2.2.2.1
  emb := fun r => ([.dat .bool r], [])

noncomputable def E_lw_FnExactIsAtlas : Env := envOf [(27, D_lw_szAtlas), (29, D_lw_toAtlas), (28, D_sp_IsAtlas), (30, D_im_IsAtlas), (31, D_lw_eqAtlas)]

noncomputable def Z_lw_FnExactIsAtlas : Nat → Nat → List Nat := fun _ _ => []

noncomputable def O_lw_FnExactIsAtlas : List (Nat × LD) := []

noncomputable def C_lw_FnExactIsAtlas : Code := (f8.body).getD .skip

/-! ### 55 loop.example/g01110/spec.l11Flows -/

noncomputable def S_sp_l11Flows_0 (k : (List (List (Int))) × ((List (List (Int))) × (Int))) (v : Int) : Tr ((Int) ⊕ ((Unit) ⊕ (Unit))) :=
  .t (decide (v < ((List.length k.2.1 : Nat) : Int)))
    (.g (inR v (List.length k.2.1)) <|
      .c (Bool) (F_sp_l2Row (List.getD k.2.1 (Int.toNat v) ([] : List (Int))) ((List.length k.1 : Nat) : Int) (99 : Int)) fun r5_ =>
      .t (!r5_)
        (.l (.inr (.inr ())))
        (.l (.inl (IntKind.wrap .i64 (v + (1 : Int))))))
    (.l (.inr (.inl ())))

noncomputable def L_sp_l11Flows_0 (k : (List (List (Int))) × ((List (List (Int))) × (Int))) (v : Int) : Option ((Unit) ⊕ (Unit)) := iter (fun v => (S_sp_l11Flows_0 k v).ev) v

noncomputable def DL_sp_l11Flows_0 : LD where
  head := { acts := [], S := { slots := [0, 1, 2, 7], sh := (.cons (.dat (.slice (.slice (.int .i64)))) (.cons (.dat (.slice (.slice (.int .i64)))) (.cons (.dat (.int .i64)) (.cons (.dat (.int .i64)) .nil)))), obs := [] } }
  exits := [(0, { acts := [], S := { slots := [0, 1, 2], sh := (.cons (.dat (.slice (.slice (.int .i64)))) (.cons (.dat (.slice (.slice (.int .i64)))) (.cons (.dat (.int .i64)) .nil))), obs := [] } })]
  rets := { acts := [], S := { slots := [6], sh := (.cons (.dat .bool) .nil), obs := [] } }
  K := (List (List (Int))) × ((List (List (Int))) × (Int))
  V := Int
  R := (Unit) ⊕ (Unit)
  join := fun k v => ((k.1, (k.2.1, (k.2.2, (v, ())))), ())
  sk := fun t => (t.1.1, (t.1.2.1, t.1.2.2.1))
  sv := fun t => t.1.2.2.2.1
  step := S_sp_l11Flows_0
  leaf := fun k r => .s (Unit) (Unit) r (fun _ => .l (.exit 0 (mkSt ({ slots := [0, 1, 2], sh := (.cons (.dat (.slice (.slice (.int .i64)))) (.cons (.dat (.slice (.slice (.int .i64)))) (.cons (.dat (.int .i64)) .nil))), obs := [] }) ((k.1, (k.2.1, (k.2.2, ()))), ())))) (fun _ => .l (.ret (mkSt ({ slots := [6], sh := (.cons (.dat .bool) .nil), obs := [] }) ((false, ()), ()))))

noncomputable def T_sp_l11Flows (a1_ : List (List (Int))) (a2_ : List (List (Int))) (a3_ : Int) : Tr (Bool) :=
  .c ((Unit) ⊕ (Unit)) (L_sp_l11Flows_0 (a1_, (a2_, a3_)) (0 : Int)) fun r10_ =>
  .s (Unit) (Unit) r10_
    (fun _ => .c (Bool) (F_sp_l11Small a1_) fun r13_ =>
      .t r13_
        (.t (((List.length a2_ : Nat) : Int) == ((List.length a1_ : Nat) : Int))
            (.c (Bool) (F_sp_l1In a3_ (0 : Int) (10 : Int)) fun r14_ =>
              .l r14_)
            (.l false))
        (.l false))
    (fun _ => .l false)

noncomputable def F_sp_l11Flows (a1_ : List (List (Int))) (a2_ : List (List (Int))) (a3_ : Int) : Option (Bool) := (T_sp_l11Flows a1_ a2_ a3_).ev

noncomputable def A_sp_l11Flows : Sh := (.cons (.dat (.slice (.slice (.int .i64)))) (.cons (.dat (.slice (.slice (.int .i64)))) (.cons (.dat (.int .i64)) .nil)))

noncomputable def K_sp_l11Flows : RetK := { acts := [], res := [.tmp 6], sh := (.cons (.dat .bool) .nil), obs := [] }

noncomputable def D_sp_l11Flows : FD where
  A := A_sp_l11Flows
  R := Bool
  F := fun x => F_sp_l11Flows x.1 x.2.1 x.2.2.1
  emb := fun r => ([.dat .bool r], [])

noncomputable def E_sp_l11Flows : Env := envOf [(59, D_sp_l2Row), (37, D_sp_l11Small), (62, D_sp_l1In)]

noncomputable def Z_sp_l11Flows : Nat → Nat → List Nat := fun _ _ => []

noncomputable def O_sp_l11Flows : List (Nat × LD) := [(0, DL_sp_l11Flows_0)]

noncomputable def C_sp_l11Flows : Code := (f55.body).getD .skip

/-! ### 56 loop.example/g01110/spec.l11Cost -/

noncomputable def S_sp_l11Cost_2 (k : (List (List (Int))) × ((List (List (Int))) × ((List (Int)) × ((Int) × (Int))))) (v : (Int) × (Int)) : Tr (((Int) × (Int)) ⊕ (Int)) :=
  .t (decide (v.2 < ((List.length k.1 : Nat) : Int)))
    (.t (k.2.2.2.2 != v.2)
        (.g (inR k.2.2.2.2 (List.length k.2.1)) <|
          .g (inR v.2 (List.length (List.getD k.2.1 (Int.toNat k.2.2.2.2) ([] : List (Int))))) <|
          .g (inR k.2.2.2.2 (List.length k.1)) <|
          .g (inR k.2.2.2.2 (List.length k.2.2.1)) <|
          .g (inR (List.getD k.2.2.1 (Int.toNat k.2.2.2.2) (0 : Int)) (List.length (List.getD k.1 (Int.toNat k.2.2.2.2) ([] : List (Int))))) <|
          .g (inR v.2 (List.length k.1)) <|
          .g (inR v.2 (List.length k.2.2.1)) <|
          .g (inR (List.getD k.2.2.1 (Int.toNat v.2) (0 : Int)) (List.length (List.getD k.1 (Int.toNat v.2) ([] : List (Int))))) <|
          .g (inR k.2.2.2.2 (List.length k.2.2.1)) <|
          .g (inR (List.getD k.2.2.1 (Int.toNat k.2.2.2.2) (0 : Int)) (List.length k.1)) <|
          .g (inR v.2 (List.length k.2.2.1)) <|
          .g (inR (List.getD k.2.2.1 (Int.toNat v.2) (0 : Int)) (List.length (List.getD k.1 (Int.toNat (List.getD k.2.2.1 (Int.toNat k.2.2.2.2) (0 : Int))) ([] : List (Int))))) <|
          .l (.inl ((IntKind.wrap .i64 (v.1 + (IntKind.wrap .i64 ((List.getD (List.getD k.2.1 (Int.toNat k.2.2.2.2) ([] : List (Int))) (Int.toNat v.2) (0 : Int)) * (IntKind.wrap .i64 ((IntKind.wrap .i64 ((10 : Int) * (IntKind.wrap .i64 ((List.getD (List.getD k.1 (Int.toNat k.2.2.2.2) ([] : List (Int))) (Int.toNat (List.getD k.2.2.1 (Int.toNat k.2.2.2.2) (0 : Int))) (0 : Int)) + (List.getD (List.getD k.1 (Int.toNat v.2) ([] : List (Int))) (Int.toNat (List.getD k.2.2.1 (Int.toNat v.2) (0 : Int))) (0 : Int)))))) + (IntKind.wrap .i64 (k.2.2.2.1 * (List.getD (List.getD k.1 (Int.toNat (List.getD k.2.2.1 (Int.toNat k.2.2.2.2) (0 : Int))) ([] : List (Int))) (Int.toNat (List.getD k.2.2.1 (Int.toNat v.2) (0 : Int))) (0 : Int)))))))))), (IntKind.wrap .i64 (v.2 + (1 : Int))))))
        (.l (.inl (v.1, (IntKind.wrap .i64 (v.2 + (1 : Int)))))))
    (.l (.inr v.1))

noncomputable def L_sp_l11Cost_2 (k : (List (List (Int))) × ((List (List (Int))) × ((List (Int)) × ((Int) × (Int))))) (v : (Int) × (Int)) : Option (Int) := iter (fun v => (S_sp_l11Cost_2 k v).ev) v

noncomputable def DL_sp_l11Cost_2 : LD where
  head := { acts := [], S := { slots := [0, 1, 2, 3, 9, 10, 11], sh := (.cons (.dat (.slice (.slice (.int .i64)))) (.cons (.dat (.slice (.slice (.int .i64)))) (.cons (.dat (.slice (.int .i64))) (.cons (.dat (.int .i64)) (.cons (.dat (.int .i64)) (.cons (.dat (.int .i64)) (.cons (.dat (.int .i64)) .nil))))))), obs := [] } }
  exits := [(2, { acts := [], S := { slots := [0, 1, 2, 3, 9, 10], sh := (.cons (.dat (.slice (.slice (.int .i64)))) (.cons (.dat (.slice (.slice (.int .i64)))) (.cons (.dat (.slice (.int .i64))) (.cons (.dat (.int .i64)) (.cons (.dat (.int .i64)) (.cons (.dat (.int .i64)) .nil)))))), obs := [] } })]
  rets := { acts := [], S := { slots := [], sh := .nil, obs := [] } }
  K := (List (List (Int))) × ((List (List (Int))) × ((List (Int)) × ((Int) × (Int))))
  V := (Int) × (Int)
  R := Int
  join := fun k v => ((k.1, (k.2.1, (k.2.2.1, (k.2.2.2.1, (v.1, (k.2.2.2.2, (v.2, ()))))))), ())
  sk := fun t => (t.1.1, (t.1.2.1, (t.1.2.2.1, (t.1.2.2.2.1, t.1.2.2.2.2.2.1))))
  sv := fun t => (t.1.2.2.2.2.1, t.1.2.2.2.2.2.2.1)
  step := S_sp_l11Cost_2
  leaf := fun k r => .l (.exit 2 (mkSt ({ slots := [0, 1, 2, 3, 9, 10], sh := (.cons (.dat (.slice (.slice (.int .i64)))) (.cons (.dat (.slice (.slice (.int .i64)))) (.cons (.dat (.slice (.int .i64))) (.cons (.dat (.int .i64)) (.cons (.dat (.int .i64)) (.cons (.dat (.int .i64)) .nil)))))), obs := [] }) ((k.1, (k.2.1, (k.2.2.1, (k.2.2.2.1, (r, (k.2.2.2.2, ())))))), ())))

noncomputable def S_sp_l11Cost_0 (k : (List (List (Int))) × ((List (List (Int))) × ((List (Int)) × (Int)))) (v : (Int) × (Int)) : Tr (((Int) × (Int)) ⊕ (Int)) :=
  .t (decide (v.2 < ((List.length k.1 : Nat) : Int)))
    (.c (Int) (L_sp_l11Cost_2 (k.1, (k.2.1, (k.2.2.1, (k.2.2.2, v.2)))) (v.1, (0 : Int))) fun r20_ =>
      .l (.inl (r20_, (IntKind.wrap .i64 (v.2 + (1 : Int))))))
    (.l (.inr v.1))

noncomputable def L_sp_l11Cost_0 (k : (List (List (Int))) × ((List (List (Int))) × ((List (Int)) × (Int)))) (v : (Int) × (Int)) : Option (Int) := iter (fun v => (S_sp_l11Cost_0 k v).ev) v

noncomputable def DL_sp_l11Cost_0 : LD where
  head := { acts := [], S := { slots := [0, 1, 2, 3, 9, 10], sh := (.cons (.dat (.slice (.slice (.int .i64)))) (.cons (.dat (.slice (.slice (.int .i64)))) (.cons (.dat (.slice (.int .i64))) (.cons (.dat (.int .i64)) (.cons (.dat (.int .i64)) (.cons (.dat (.int .i64)) .nil)))))), obs := [] } }
  exits := [(0, { acts := [], S := { slots := [9], sh := (.cons (.dat (.int .i64)) .nil), obs := [] } })]
  rets := { acts := [], S := { slots := [], sh := .nil, obs := [] } }
  K := (List (List (Int))) × ((List (List (Int))) × ((List (Int)) × (Int)))
  V := (Int) × (Int)
  R := Int
  join := fun k v => ((k.1, (k.2.1, (k.2.2.1, (k.2.2.2, (v.1, (v.2, ())))))), ())
  sk := fun t => (t.1.1, (t.1.2.1, (t.1.2.2.1, t.1.2.2.2.1)))
  sv := fun t => (t.1.2.2.2.2.1, t.1.2.2.2.2.2.1)
  step := S_sp_l11Cost_0
  leaf := fun _ r => .l (.exit 0 (mkSt ({ slots := [9], sh := (.cons (.dat (.int .i64)) .nil), obs := [] }) ((r, ()), ())))

noncomputable def T_sp_l11Cost (a1_ : List (List (Int))) (a2_ : List (List (Int))) (a3_ : List (Int)) (a4_ : Int) : Tr (Int) :=
  .c (Int) (L_sp_l11Cost_0 (a1_, (a2_, (a3_, a4_))) ((0 : Int), (0 : Int))) fun r22_ =>
  .l r22_

noncomputable def F_sp_l11Cost (a1_ : List (List (Int))) (a2_ : List (List (Int))) (a3_ : List (Int)) (a4_ : Int) : Option (Int) := (T_sp_l11Cost a1_ a2_ a3_ a4_).ev

noncomputable def A_sp_l11Cost : Sh := (.cons (.dat (.slice (.slice (.int .i64)))) (.cons (.dat (.slice (.slice (.int .i64)))) (.cons (.dat (.slice (.int .i64))) (.cons (.dat (.int .i64)) .nil))))

noncomputable def K_sp_l11Cost : RetK := { acts := [], res := [.tmp 8], sh := (.cons (.dat (.int .i64)) .nil), obs := [] }

noncomputable def D_sp_l11Cost : FD where
  A := A_sp_l11Cost
  R := Int
  F := fun x => F_sp_l11Cost x.1 x.2.1 x.2.2.1 x.2.2.2.1
  emb := fun r => ([.dat (.int .i64) r], [])

noncomputable def E_sp_l11Cost : Env := envOf []

noncomputable def Z_sp_l11Cost : Nat → Nat → List Nat := fun _ _ => []

noncomputable def O_sp_l11Cost : List (Nat × LD) := [(2, DL_sp_l11Cost_2), (0, DL_sp_l11Cost_0)]

noncomputable def C_sp_l11Cost : Code := (f56.body).getD .skip

/-! ### 32 loop.example/g01110/spec.HubCost -/

noncomputable def T_sp_HubCost (a1_ : List (List (Int))) (a2_ : List (List (Int))) (a3_ : List (Int)) (a4_ : Int) : Tr ((Int) × (Bool)) :=
  .c (Bool) (F_sp_l11Flows a1_ a2_ a4_) fun r1_ =>
  .t (!r1_)
    (.l ((0 : Int), false))
    (.c (Bool) (F_sp_l11Hubs a1_ a3_) fun r2_ =>
      .t (!r2_)
        (.l ((0 : Int), false))
        (.c (Int) (F_sp_l11Cost a1_ a2_ a3_ a4_) fun r3_ =>
          .l (r3_, true)))

noncomputable def F_sp_HubCost (a1_ : List (List (Int))) (a2_ : List (List (Int))) (a3_ : List (Int)) (a4_ : Int) : Option ((Int) × (Bool)) := (T_sp_HubCost a1_ a2_ a3_ a4_).ev

noncomputable def A_sp_HubCost : Sh := (.cons (.dat (.slice (.slice (.int .i64)))) (.cons (.dat (.slice (.slice (.int .i64)))) (.cons (.dat (.slice (.int .i64))) (.cons (.dat (.int .i64)) .nil))))

noncomputable def K_sp_HubCost : RetK := { acts := [], res := [.tmp 8, .tmp 9], sh := (.cons (.dat (.int .i64)) (.cons (.dat .bool) .nil)), obs := [] }

noncomputable def D_sp_HubCost : FD where
  A := A_sp_HubCost
  R := (Int) × (Bool)
  F := fun x => F_sp_HubCost x.1 x.2.1 x.2.2.1 x.2.2.2.1
  emb := fun r => ([.dat (.int .i64) r.1, .dat .bool r.2], [])

noncomputable def E_sp_HubCost : Env := envOf [(55, D_sp_l11Flows), (38, D_sp_l11Hubs), (56, D_sp_l11Cost)]

noncomputable def Z_sp_HubCost : Nat → Nat → List Nat := fun _ _ => []

noncomputable def O_sp_HubCost : List (Nat × LD) := []

noncomputable def C_sp_HubCost : Code := (f32.body).getD .skip

/-! ### 72 loop.example/g01110/impl.areFlows$1 -/

noncomputable def T_im_areFlows_1 (a1_ : List (Int)) (a2_ : List (List (Int))) : Tr (Bool) :=
  .t (((List.length a1_ : Nat) : Int) != ((List.length a2_ : Nat) : Int))
    (.l true)
    (.c (Bool) (F_im_areBetween a1_ (0 : Int) (99 : Int)) fun r1_ =>
      .l (!r1_))

noncomputable def F_im_areFlows_1 (a1_ : List (Int)) (a2_ : List (List (Int))) : Option (Bool) := (T_im_areFlows_1 a1_ a2_).ev

noncomputable def A_im_areFlows_1 : Sh := (.cons (.dat (.slice (.int .i64))) (.cons (.ptr (.cons (.dat (.slice (.slice (.int .i64)))) .nil)) .nil))

noncomputable def K_im_areFlows_1 : RetK := { acts := [], res := [.tmp 3], sh := (.cons (.dat .bool) .nil), obs := [] }

noncomputable def D_im_areFlows_1 : FD where
  A := A_im_areFlows_1
  R := Bool
  F := fun x => F_im_areFlows_1 x.1 x.2.1.1
  emb := fun r => ([.dat .bool r], [])

noncomputable def E_im_areFlows_1 : Env := envOf [(36, D_im_areBetween)]

noncomputable def Z_im_areFlows_1 : Nat → Nat → List Nat := fun _ _ => []

noncomputable def O_im_areFlows_1 : List (Nat × LD) := []

noncomputable def C_im_areFlows_1 : Code := (f72.body).getD .skip

/-! ### 57 loop.example/g01110/impl.areFlows -/

noncomputable def T_im_areFlows (a1_ : List (List (Int))) (a2_ : List (List (Int))) : Tr (Bool) :=
  .t (((List.length a2_ : Nat) : Int) == ((List.length a1_ : Nat) : Int))
    (.c (Bool) (F_slices_ContainsFunc_SSint_Sint a2_ (fun h1_ => Option.bind (F_im_areFlows_1 h1_.1 a1_) fun y2_ => some y2_)) fun r3_ =>
      .l (!r3_))
    (.l false)

noncomputable def F_im_areFlows (a1_ : List (List (Int))) (a2_ : List (List (Int))) : Option (Bool) := (T_im_areFlows a1_ a2_).ev

noncomputable def A_im_areFlows : Sh := (.cons (.dat (.slice (.slice (.int .i64)))) (.cons (.dat (.slice (.slice (.int .i64)))) .nil))

noncomputable def K_im_areFlows : RetK := { acts := [], res := [.tmp 4], sh := (.cons (.dat .bool) .nil), obs := [] }

noncomputable def D_im_areFlows : FD where
  A := A_im_areFlows
  R := Bool
  F := fun x => F_im_areFlows x.1 x.2.1
  emb := fun r => ([.dat .bool r], [])

noncomputable def E_im_areFlows : Env := envOf [(70, D_slices_ContainsFunc_SSint_Sint), (72, D_im_areFlows_1)]

noncomputable def Z_im_areFlows : Nat → Nat → List Nat := fun _ _ => []

noncomputable def O_im_areFlows : List (Nat × LD) := []

noncomputable def C_im_areFlows : Code := (f57.body).getD .skip

/-! ### 58 loop.example/g01110/impl.hubCost -/

noncomputable def S_im_hubCost_2 (k : (List (List (Int))) × ((List (Int)) × ((Int) × ((Int) × ((List (List (Int))) × ((Int) × ((Int) × ((List (Int)) × (Int))))))))) (v : (Int) × (Int)) : Tr (((Int) × (Int)) ⊕ (Int)) :=
  .t (decide (v.2 < k.2.2.2.2.2.2.2.2))
    (.g (inR v.2 (List.length k.2.2.2.2.2.2.2.1)) <|
      .t (k.2.2.2.1 != v.2)
        (.g (inR k.2.2.2.1 (List.length k.1)) <|
          .g (inR k.2.2.2.1 (List.length k.2.1)) <|
          .g (inR (List.getD k.2.1 (Int.toNat k.2.2.2.1) (0 : Int)) (List.length (List.getD k.1 (Int.toNat k.2.2.2.1) ([] : List (Int))))) <|
          .g (inR v.2 (List.length k.1)) <|
          .g (inR v.2 (List.length k.2.1)) <|
          .g (inR (List.getD k.2.1 (Int.toNat v.2) (0 : Int)) (List.length (List.getD k.1 (Int.toNat v.2) ([] : List (Int))))) <|
          .g (inR k.2.2.2.1 (List.length k.2.1)) <|
          .g (inR (List.getD k.2.1 (Int.toNat k.2.2.2.1) (0 : Int)) (List.length k.1)) <|
          .g (inR v.2 (List.length k.2.1)) <|
          .g (inR (List.getD k.2.1 (Int.toNat v.2) (0 : Int)) (List.length (List.getD k.1 (Int.toNat (List.getD k.2.1 (Int.toNat k.2.2.2.1) (0 : Int))) ([] : List (Int))))) <|
          .l (.inl ((IntKind.wrap .i64 (v.1 + (IntKind.wrap .i64 ((List.getD k.2.2.2.2.2.2.2.1 (Int.toNat v.2) (0 : Int)) * (IntKind.wrap .i64 ((IntKind.wrap .i64 ((10 : Int) * (IntKind.wrap .i64 ((List.getD (List.getD k.1 (Int.toNat k.2.2.2.1) ([] : List (Int))) (Int.toNat (List.getD k.2.1 (Int.toNat k.2.2.2.1) (0 : Int))) (0 : Int)) + (List.getD (List.getD k.1 (Int.toNat v.2) ([] : List (Int))) (Int.toNat (List.getD k.2.1 (Int.toNat v.2) (0 : Int))) (0 : Int)))))) + (IntKind.wrap .i64 (k.2.2.1 * (List.getD (List.getD k.1 (Int.toNat (List.getD k.2.1 (Int.toNat k.2.2.2.1) (0 : Int))) ([] : List (Int))) (Int.toNat (List.getD k.2.1 (Int.toNat v.2) (0 : Int))) (0 : Int)))))))))), (IntKind.wrap .i64 (v.2 + (1 : Int))))))
        (.l (.inl (v.1, (IntKind.wrap .i64 (v.2 + (1 : Int)))))))
    (.l (.inr v.1))

noncomputable def L_im_hubCost_2 (k : (List (List (Int))) × ((List (Int)) × ((Int) × ((Int) × ((List (List (Int))) × ((Int) × ((Int) × ((List (Int)) × (Int))))))))) (v : (Int) × (Int)) : Option (Int) := iter (fun v => (S_im_hubCost_2 k v).ev) v

noncomputable def DL_im_hubCost_2 : LD where
  head := { acts := [], S := { slots := [0, 2, 3, 9, 10, 14, 15, 16, 21, 22, 23], sh := (.cons (.dat (.slice (.slice (.int .i64)))) (.cons (.dat (.slice (.int .i64))) (.cons (.dat (.int .i64)) (.cons (.dat (.int .i64)) (.cons (.dat (.int .i64)) (.cons (.dat (.slice (.slice (.int .i64)))) (.cons (.dat (.int .i64)) (.cons (.dat (.int .i64)) (.cons (.dat (.slice (.int .i64))) (.cons (.dat (.int .i64)) (.cons (.dat (.int .i64)) .nil))))))))))), obs := [] } }
  exits := [(2, { acts := [], S := { slots := [0, 2, 3, 9, 14, 15, 16], sh := (.cons (.dat (.slice (.slice (.int .i64)))) (.cons (.dat (.slice (.int .i64))) (.cons (.dat (.int .i64)) (.cons (.dat (.int .i64)) (.cons (.dat (.slice (.slice (.int .i64)))) (.cons (.dat (.int .i64)) (.cons (.dat (.int .i64)) .nil))))))), obs := [] } })]
  rets := { acts := [], S := { slots := [], sh := .nil, obs := [] } }
  K := (List (List (Int))) × ((List (Int)) × ((Int) × ((Int) × ((List (List (Int))) × ((Int) × ((Int) × ((List (Int)) × (Int))))))))
  V := (Int) × (Int)
  R := Int
  join := fun k v => ((k.1, (k.2.1, (k.2.2.1, (v.1, (k.2.2.2.1, (k.2.2.2.2.1, (k.2.2.2.2.2.1, (k.2.2.2.2.2.2.1, (k.2.2.2.2.2.2.2.1, (k.2.2.2.2.2.2.2.2, (v.2, ()))))))))))), ())
  sk := fun t => (t.1.1, (t.1.2.1, (t.1.2.2.1, (t.1.2.2.2.2.1, (t.1.2.2.2.2.2.1, (t.1.2.2.2.2.2.2.1, (t.1.2.2.2.2.2.2.2.1, (t.1.2.2.2.2.2.2.2.2.1, t.1.2.2.2.2.2.2.2.2.2.1))))))))
  sv := fun t => (t.1.2.2.2.1, t.1.2.2.2.2.2.2.2.2.2.2.1)
  step := S_im_hubCost_2
  leaf := fun k r => .l (.exit 2 (mkSt ({ slots := [0, 2, 3, 9, 14, 15, 16], sh := (.cons (.dat (.slice (.slice (.int .i64)))) (.cons (.dat (.slice (.int .i64))) (.cons (.dat (.int .i64)) (.cons (.dat (.int .i64)) (.cons (.dat (.slice (.slice (.int .i64)))) (.cons (.dat (.int .i64)) (.cons (.dat (.int .i64)) .nil))))))), obs := [] }) ((k.1, (k.2.1, (k.2.2.1, (r, (k.2.2.2.2.1, (k.2.2.2.2.2.1, (k.2.2.2.2.2.2.1, ()))))))), ())))

noncomputable def S_im_hubCost_0 (k : (List (List (Int))) × ((List (Int)) × ((Int) × ((List (List (Int))) × (Int))))) (v : (Int) × (Int)) : Tr (((Int) × (Int)) ⊕ (Int)) :=
  .t (decide (v.2 < k.2.2.2.2))
    (.g (inR v.2 (List.length k.2.2.2.1)) <|
      .c (Int) (L_im_hubCost_2 (k.1, (k.2.1, (k.2.2.1, (v.2, (k.2.2.2.1, (k.2.2.2.2, (v.2, ((List.getD k.2.2.2.1 (Int.toNat v.2) ([] : List (Int))), ((List.length (List.getD k.2.2.2.1 (Int.toNat v.2) ([] : List (Int))) : Nat) : Int))))))))) (v.1, (0 : Int))) fun r26_ =>
      .l (.inl (r26_, (IntKind.wrap .i64 (v.2 + (1 : Int))))))
    (.l (.inr v.1))

noncomputable def L_im_hubCost_0 (k : (List (List (Int))) × ((List (Int)) × ((Int) × ((List (List (Int))) × (Int))))) (v : (Int) × (Int)) : Option (Int) := iter (fun v => (S_im_hubCost_0 k v).ev) v

noncomputable def DL_im_hubCost_0 : LD where
  head := { acts := [], S := { slots := [0, 2, 3, 9, 14, 15, 16], sh := (.cons (.dat (.slice (.slice (.int .i64)))) (.cons (.dat (.slice (.int .i64))) (.cons (.dat (.int .i64)) (.cons (.dat (.int .i64)) (.cons (.dat (.slice (.slice (.int .i64)))) (.cons (.dat (.int .i64)) (.cons (.dat (.int .i64)) .nil))))))), obs := [] } }
  exits := [(0, { acts := [], S := { slots := [9], sh := (.cons (.dat (.int .i64)) .nil), obs := [] } })]
  rets := { acts := [], S := { slots := [], sh := .nil, obs := [] } }
  K := (List (List (Int))) × ((List (Int)) × ((Int) × ((List (List (Int))) × (Int))))
  V := (Int) × (Int)
  R := Int
  join := fun k v => ((k.1, (k.2.1, (k.2.2.1, (v.1, (k.2.2.2.1, (k.2.2.2.2, (v.2, ()))))))), ())
  sk := fun t => (t.1.1, (t.1.2.1, (t.1.2.2.1, (t.1.2.2.2.2.1, t.1.2.2.2.2.2.1))))
  sv := fun t => (t.1.2.2.2.1, t.1.2.2.2.2.2.2.1)
  step := S_im_hubCost_0
  leaf := fun _ r => .l (.exit 0 (mkSt ({ slots := [9], sh := (.cons (.dat (.int .i64)) .nil), obs := [] }) ((r, ()), ())))

noncomputable def T_im_hubCost (a1_ : List (List (Int))) (a2_ : List (List (Int))) (a3_ : List (Int)) (a4_ : Int) : Tr (Int) :=
  .c (Int) (L_im_hubCost_0 (a1_, (a3_, (a4_, (a2_, ((List.length a2_ : Nat) : Int))))) ((0 : Int), (0 : Int))) fun r28_ =>
  .l r28_

noncomputable def F_im_hubCost (a1_ : List (List (Int))) (a2_ : List (List (Int))) (a3_ : List (Int)) (a4_ : Int) : Option (Int) := (T_im_hubCost a1_ a2_ a3_ a4_).ev

noncomputable def A_im_hubCost : Sh := (.cons (.dat (.slice (.slice (.int .i64)))) (.cons (.dat (.slice (.slice (.int .i64)))) (.cons (.dat (.slice (.int .i64))) (.cons (.dat (.int .i64)) .nil))))

noncomputable def K_im_hubCost : RetK := { acts := [], res := [.tmp 8], sh := (.cons (.dat (.int .i64)) .nil), obs := [] }

noncomputable def D_im_hubCost : FD where
  A := A_im_hubCost
  R := Int
  F := fun x => F_im_hubCost x.1 x.2.1 x.2.2.1 x.2.2.2.1
  emb := fun r => ([.dat (.int .i64) r], [])

noncomputable def E_im_hubCost : Env := envOf []

noncomputable def Z_im_hubCost : Nat → Nat → List Nat := fun _ _ => []

noncomputable def O_im_hubCost : List (Nat × LD) := [(2, DL_im_hubCost_2), (0, DL_im_hubCost_0)]

noncomputable def C_im_hubCost : Code := (f58.body).getD .skip

/-! ### 33 loop.example/g01110/impl.HubCost -/

noncomputable def T_im_HubCost (a1_ : List (List (Int))) (a2_ : List (List (Int))) (a3_ : List (Int)) (a4_ : Int) : Tr ((Int) × (Bool)) :=
  .c (Bool) (F_im_isNet a1_) fun r1_ =>
  .t (!r1_)
    (.l ((0 : Int), false))
    (.c (Bool) (F_im_areFlows a1_ a2_) fun r2_ =>
      .t (!r2_)
        (.l ((0 : Int), false))
        (.c (Bool) (F_im_isAllocation ((List.length a1_ : Nat) : Int) a3_) fun r3_ =>
          .t (!r3_)
            (.l ((0 : Int), false))
            (.c (Bool) (F_im_between a4_ (0 : Int) (10 : Int)) fun r4_ =>
              .t (!r4_)
                (.l ((0 : Int), false))
                (.c (Int) (F_im_hubCost a1_ a2_ a3_ a4_) fun r5_ =>
                  .l (r5_, true)))))

noncomputable def F_im_HubCost (a1_ : List (List (Int))) (a2_ : List (List (Int))) (a3_ : List (Int)) (a4_ : Int) : Option ((Int) × (Bool)) := (T_im_HubCost a1_ a2_ a3_ a4_).ev

noncomputable def A_im_HubCost : Sh := (.cons (.dat (.slice (.slice (.int .i64)))) (.cons (.dat (.slice (.slice (.int .i64)))) (.cons (.dat (.slice (.int .i64))) (.cons (.dat (.int .i64)) .nil))))

noncomputable def K_im_HubCost : RetK := { acts := [], res := [.tmp 8, .tmp 9], sh := (.cons (.dat (.int .i64)) (.cons (.dat .bool) .nil)), obs := [] }

noncomputable def D_im_HubCost : FD where
  A := A_im_HubCost
  R := (Int) × (Bool)
  F := fun x => F_im_HubCost x.1 x.2.1 x.2.2.1 x.2.2.2.1
  emb := fun r => ([.dat (.int .i64) r.1, .dat .bool r.2], [])

noncomputable def E_im_HubCost : Env := envOf [(39, D_im_isNet), (57, D_im_areFlows), (40, D_im_isAllocation), (53, D_im_between), (58, D_im_hubCost)]

noncomputable def Z_im_HubCost : Nat → Nat → List Nat := fun _ _ => []

noncomputable def O_im_HubCost : List (Nat × LD) := []

noncomputable def C_im_HubCost : Code := (f33.body).getD .skip

/-! ### 9 loop.example/g01110/laws.FnExactHubCost -/

noncomputable def T_lw_FnExactHubCost (a1_ : List (List (Int))) (a2_ : List (List (Int))) (a3_ : List (Int)) (a4_ : Int) : Tr (Bool) :=
  .t (decide ((1048576 : Int) < ((List.length a3_ : Nat) : Int)))
    (.l true)
    (.c (Int) (F_lw_szIntSS a1_ (1048576 : Int)) fun r1_ =>
      .t (decide (r1_ < (0 : Int)))
        (.l true)
        (.c (Int) (F_lw_szIntSS a2_ r1_) fun r2_ =>
          .t (decide (r2_ < (0 : Int)))
            (.l true)
            (.c (List (List (Int))) (F_lw_toIntSS a1_) fun r3_ =>
              .c (List (List (Int))) (F_lw_toIntSS a2_) fun r4_ =>
              .c (List (Int)) (F_lw_toIntS a3_) fun r5_ =>
              .c ((Int) × (Bool)) (F_sp_HubCost r3_ r4_ r5_ a4_) fun r6_ =>
              .c (List (List (Int))) (F_lw_toIntSS a1_) fun r7_ =>
              .c (List (List (Int))) (F_lw_toIntSS a2_) fun r8_ =>
              .c (List (Int)) (F_lw_toIntS a3_) fun r9_ =>
              .c ((Int) × (Bool)) (F_im_HubCost r7_ r8_ r9_ a4_) fun r10_ =>
              .t (r10_.1 != r6_.1)
                (.l false)
                (.t (!(r10_.2 == r6_.2))
                    (.l false)
                    (.c (List (List (Int))) (F_lw_toIntSS a1_) fun r11_ =>
                      .c (Bool) (F_lw_eqIntSS r7_ r11_) fun r12_ =>
                      .t (!r12_)
                        (.l false)
                        (.c (List (List (Int))) (F_lw_toIntSS a2_) fun r13_ =>
                          .c (Bool) (F_lw_eqIntSS r8_ r13_) fun r14_ =>
                          .t (!r14_)
                            (.l false)
                            (.c (List (Int)) (F_lw_toIntS a3_) fun r15_ =>
                              .c (Bool) (F_lw_eqIntS r9_ r15_) fun r16_ =>
                              .t (!r16_)
                                (.l false)
                                (.l true))))))))

noncomputable def F_lw_FnExactHubCost (a1_ : List (List (Int))) (a2_ : List (List (Int))) (a3_ : List (Int)) (a4_ : Int) : Option (Bool) := (T_lw_FnExactHubCost a1_ a2_ a3_ a4_).ev

noncomputable def A_lw_FnExactHubCost : Sh := (.cons (.dat (.slice (.slice (.int .i64)))) (.cons (.dat (.slice (.slice (.int .i64)))) (.cons (.dat (.slice (.int .i64))) (.cons (.dat (.int .i64)) .nil))))

noncomputable def K_lw_FnExactHubCost : RetK := { acts := [], res := [.tmp 8], sh := (.cons (.dat .bool) .nil), obs := [] }

noncomputable def D_lw_FnExactHubCost : FD where
  A := A_lw_FnExactHubCost
  R := Bool
  F := fun x => F_lw_FnExactHubCost x.1 x.2.1 x.2.2.1 x.2.2.2.1
  emb := fun r => ([.dat .bool r], [])

noncomputable def E_lw_FnExactHubCost : Env := envOf [(10, D_lw_szIntSS), (12, D_lw_toIntSS), (16, D_lw_toIntS), (32, D_sp_HubCost), (33, D_im_HubCost), (14, D_lw_eqIntSS), (18, D_lw_eqIntS)]

noncomputable def Z_lw_FnExactHubCost : Nat → Nat → List Nat := fun _ _ => []

noncomputable def O_lw_FnExactHubCost : List (Nat × LD) := []

noncomputable def C_lw_FnExactHubCost : Code := (f9.body).getD .skip
end Go.Proofs.Ytafcpibodfbjnaa
