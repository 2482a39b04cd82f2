import Derived.Test.YthkafleokepjeaaB31
import Derived.Test.YthkafleokepjeaaProg
namespace Go.Proofs.Ythkafleokepjeaa
open Go.Proofs.Try

noncomputable def tabl : List (Nat × TD) := [(3, .sc (.int .i64)), (4, .sc .bool), (22, .sl 29 (.slice (.int .i64)) 24), (29, .sl 3 (.int .i64) 8), (31, .st (.pair (.slice (.int .i64)) (.slice (.slice (.int .i64)))) [(29, (.slice (.int .i64))), (22, (.slice (.slice (.int .i64))))]), (33, .st (.pair (.slice (.int .i64)) (.slice (.slice (.int .i64)))) [(29, (.slice (.int .i64))), (22, (.slice (.slice (.int .i64))))]), (35, .st (.pair (.pair (.slice (.int .i64)) (.slice (.slice (.int .i64)))) (.pair (.slice (.int .i64)) (.int .i64))) [(33, (.pair (.slice (.int .i64)) (.slice (.slice (.int .i64))))), (29, (.slice (.int .i64))), (3, (.int .i64))]), (45, .st (.pair (.pair (.slice (.int .i64)) (.slice (.slice (.int .i64)))) (.pair (.slice (.int .i64)) (.int .i64))) [(31, (.pair (.slice (.int .i64)) (.slice (.slice (.int .i64))))), (29, (.slice (.int .i64))), (3, (.int .i64))])]

noncomputable def tt : Nat → TD := fun i => match look tabl i with
  | some d => d
  | none => .no

/-! ### 69 loop.example/g01110/laws.szIntS -/

noncomputable def T_lw_szIntS (a1_ : List (Int)) (a2_ : Int) : Tr (Int) :=
  .t (decide ((IntKind.wrap .i64 (a2_ - ((List.length a1_ : Nat) : Int))) < (0 : Int)))
    (.l (-1 : Int))
    (.l (IntKind.wrap .i64 (a2_ - ((List.length a1_ : Nat) : Int))))

noncomputable def F_lw_szIntS (a1_ : List (Int)) (a2_ : Int) : Option (Int) := (T_lw_szIntS a1_ a2_).ev

noncomputable def A_lw_szIntS : Sh := (.cons (.dat (.slice (.int .i64))) (.cons (.dat (.int .i64)) .nil))

noncomputable def I_lw_szIntS : List (Nat × OSh) := []

noncomputable def K_lw_szIntS : RetK := { acts := [], res := [.tmp 4], sh := (.cons (.dat (.int .i64)) .nil), obs := [], pins := [] }

noncomputable def D_lw_szIntS : FD where
  A := A_lw_szIntS
  ins := I_lw_szIntS
  lend := []
  R := Int
  F := fun x => F_lw_szIntS x.1.1 x.1.2.1
  emb := fun r => ([.dat (.int .i64) r], [])

noncomputable def E_lw_szIntS : Env := envOf []

noncomputable def Z_lw_szIntS : Nat → Nat → List Nat := fun _ _ => []

noncomputable def O_lw_szIntS : List (Nat × LD) := []

noncomputable def C_lw_szIntS : Code := (f69.body).getD .skip

/-! ### 15 loop.example/g01110/laws.szIntSS -/

noncomputable def S_lw_szIntSS_0 (k : List (List (Int))) (v : (Int) × (Int)) : Tr (((Int) × (Int)) ⊕ ((Int) ⊕ (Unit))) :=
  .t (decide (v.2 < ((List.length k : Nat) : Int)))
    (.g (inR v.2 (List.length k)) <|
      .c (Int) (F_lw_szIntS (List.getD k (Int.toNat v.2) ([] : List (Int))) v.1) fun r4_ =>
      .t (decide (r4_ < (0 : Int)))
        (.l (.inr (.inr ())))
        (.l (.inl (r4_, (IntKind.wrap .i64 (v.2 + (1 : Int)))))))
    (.l (.inr (.inl v.1)))

noncomputable def L_lw_szIntSS_0 (k : List (List (Int))) (v : (Int) × (Int)) : Option ((Int) ⊕ (Unit)) := iter (fun v => (S_lw_szIntSS_0 k v).ev) v

noncomputable def DL_lw_szIntSS_0 : LD where
  head := { acts := [], S := { slots := [0, 1, 5], sh := (.cons (.dat (.slice (.slice (.int .i64)))) (.cons (.dat (.int .i64)) (.cons (.dat (.int .i64)) .nil))), obs := [] } }
  exits := [(0, { acts := [], S := { slots := [1], sh := (.cons (.dat (.int .i64)) .nil), obs := [] } })]
  rets := { acts := [], S := { slots := [4], sh := (.cons (.dat (.int .i64)) .nil), obs := [] } }
  K := List (List (Int))
  V := (Int) × (Int)
  R := (Int) ⊕ (Unit)
  join := fun k v => ((k, (v.1, (v.2, ()))), ())
  sk := fun t => t.1.1
  sv := fun t => (t.1.2.1, t.1.2.2.1)
  step := S_lw_szIntSS_0
  leaf := fun _ r => .s (Int) (Unit) r (fun a => .l (.exit 0 (mkSt ({ slots := [1], sh := (.cons (.dat (.int .i64)) .nil), obs := [] }) ((a, ()), ())))) (fun _ => .l (.ret (mkSt ({ slots := [4], sh := (.cons (.dat (.int .i64)) .nil), obs := [] }) (((-1 : Int), ()), ()))))

noncomputable def T_lw_szIntSS (a1_ : List (List (Int))) (a2_ : Int) : Tr (Int) :=
  .t (decide ((IntKind.wrap .i64 (a2_ - ((List.length a1_ : Nat) : Int))) < (0 : Int)))
    (.l (-1 : Int))
    (.c ((Int) ⊕ (Unit)) (L_lw_szIntSS_0 a1_ ((IntKind.wrap .i64 (a2_ - ((List.length a1_ : Nat) : Int))), (0 : Int))) fun r7_ =>
      .s (Int) (Unit) r7_
        (fun r8_ => .l r8_)
        (fun _ => .l (-1 : Int)))

noncomputable def F_lw_szIntSS (a1_ : List (List (Int))) (a2_ : Int) : Option (Int) := (T_lw_szIntSS a1_ a2_).ev

noncomputable def A_lw_szIntSS : Sh := (.cons (.dat (.slice (.slice (.int .i64)))) (.cons (.dat (.int .i64)) .nil))

noncomputable def I_lw_szIntSS : List (Nat × OSh) := []

noncomputable def K_lw_szIntSS : RetK := { acts := [], res := [.tmp 4], sh := (.cons (.dat (.int .i64)) .nil), obs := [], pins := [] }

noncomputable def D_lw_szIntSS : FD where
  A := A_lw_szIntSS
  ins := I_lw_szIntSS
  lend := []
  R := Int
  F := fun x => F_lw_szIntSS x.1.1 x.1.2.1
  emb := fun r => ([.dat (.int .i64) r], [])

noncomputable def E_lw_szIntSS : Env := envOf [(69, D_lw_szIntS)]

noncomputable def Z_lw_szIntSS : Nat → Nat → List Nat := fun _ _ => []

noncomputable def O_lw_szIntSS : List (Nat × LD) := [(0, DL_lw_szIntSS_0)]

noncomputable def C_lw_szIntSS : Code := (f15.body).getD .skip

/-! ### 22 loop.example/g01110/laws.szField -/

noncomputable def T_lw_szField (a1_ : List (Int)) (a2_ : List (List (Int))) (a3_ : Int) : Tr (Int) :=
  .c (Int) (F_lw_szIntS a1_ a3_) fun r1_ =>
  .t (decide (r1_ < (0 : Int)))
    (.l (-1 : Int))
    (.c (Int) (F_lw_szIntSS a2_ r1_) fun r2_ =>
      .t (decide (r2_ < (0 : Int)))
        (.l (-1 : Int))
        (.l r2_))

noncomputable def F_lw_szField (a1_ : List (Int)) (a2_ : List (List (Int))) (a3_ : Int) : Option (Int) := (T_lw_szField a1_ a2_ a3_).ev

noncomputable def A_lw_szField : Sh := (.cons (.agg (.cons (.dat (.slice (.int .i64))) (.cons (.dat (.slice (.slice (.int .i64)))) .nil))) (.cons (.dat (.int .i64)) .nil))

noncomputable def I_lw_szField : List (Nat × OSh) := []

noncomputable def K_lw_szField : RetK := { acts := [], res := [.tmp 4], sh := (.cons (.dat (.int .i64)) .nil), obs := [], pins := [] }

noncomputable def D_lw_szField : FD where
  A := A_lw_szField
  ins := I_lw_szField
  lend := []
  R := Int
  F := fun x => F_lw_szField x.1.1.1 x.1.1.2.1 x.1.2.1
  emb := fun r => ([.dat (.int .i64) r], [])

noncomputable def E_lw_szField : Env := envOf [(69, D_lw_szIntS), (15, D_lw_szIntSS)]

noncomputable def Z_lw_szField : Nat → Nat → List Nat := fun _ _ => []

noncomputable def O_lw_szField : List (Nat × LD) := []

noncomputable def C_lw_szField : Code := (f22.body).getD .skip

/-! ### 31 loop.example/g01110/laws.szAtlas -/

noncomputable def T_lw_szAtlas (a1_ : List (Int)) (a2_ : List (List (Int))) (a3_ : List (Int)) (_a4_ : Int) (a5_ : Int) : Tr (Int) :=
  .c (Int) (F_lw_szField a1_ a2_ a5_) fun r1_ =>
  .t (decide (r1_ < (0 : Int)))
    (.l (-1 : Int))
    (.c (Int) (F_lw_szIntS a3_ r1_) fun r2_ =>
      .t (decide (r2_ < (0 : Int)))
        (.l (-1 : Int))
        (.l r2_))

noncomputable def F_lw_szAtlas (a1_ : List (Int)) (a2_ : List (List (Int))) (a3_ : List (Int)) (a4_ : Int) (a5_ : Int) : Option (Int) := (T_lw_szAtlas a1_ a2_ a3_ a4_ a5_).ev

noncomputable def A_lw_szAtlas : Sh := (.cons (.agg (.cons (.dat (.slice (.int .i64))) (.cons (.dat (.slice (.slice (.int .i64)))) (.cons (.dat (.slice (.int .i64))) (.cons (.dat (.int .i64)) .nil))))) (.cons (.dat (.int .i64)) .nil))

noncomputable def I_lw_szAtlas : List (Nat × OSh) := []

noncomputable def K_lw_szAtlas : RetK := { acts := [], res := [.tmp 4], sh := (.cons (.dat (.int .i64)) .nil), obs := [], pins := [] }

noncomputable def D_lw_szAtlas : FD where
  A := A_lw_szAtlas
  ins := I_lw_szAtlas
  lend := []
  R := Int
  F := fun x => F_lw_szAtlas x.1.1.1 x.1.1.2.1 x.1.1.2.2.1 x.1.1.2.2.2.1 x.1.2.1
  emb := fun r => ([.dat (.int .i64) r], [])

noncomputable def E_lw_szAtlas : Env := envOf [(22, D_lw_szField), (69, D_lw_szIntS)]

noncomputable def Z_lw_szAtlas : Nat → Nat → List Nat := fun _ _ => []

noncomputable def O_lw_szAtlas : List (Nat × LD) := []

noncomputable def C_lw_szAtlas : Code := (f31.body).getD .skip

/-! ### 36 loop.example/g01110/laws.toIntS -/

noncomputable def S_lw_toIntS_0 (k : List (Int)) (v : (Int) × (List (Int))) : Tr (((Int) × (List (Int))) ⊕ (List (Int))) :=
  .t (decide (v.1 < ((List.length k : Nat) : Int)))
    (.g (inR v.1 (List.length k)) <|
      .g (inR v.1 (List.length v.2)) <|
      .g (decide ((Int.toNat v.1) < List.length v.2)) <|
      .l (.inl ((IntKind.wrap .i64 (v.1 + (1 : Int))), (List.set v.2 (Int.toNat v.1) (List.getD k (Int.toNat v.1) (0 : Int))))))
    (.l (.inr v.2))

noncomputable def L_lw_toIntS_0 (k : List (Int)) (v : (Int) × (List (Int))) : Option (List (Int)) := iter (fun v => (S_lw_toIntS_0 k v).ev) v

noncomputable def DL_lw_toIntS_0 : LD where
  head := { acts := [], S := { slots := [0, 3, 4], sh := (.cons (.dat (.slice (.int .i64))) (.cons (.arr 7) (.cons (.dat (.int .i64)) .nil))), obs := [(7, .arr 3 (.int .i64))] } }
  exits := [(0, { acts := [], S := { slots := [3], sh := (.cons (.arr 7) .nil), obs := [(7, .arr 3 (.int .i64))] } })]
  rets := { acts := [], S := { slots := [], sh := .nil, obs := [] } }
  K := List (Int)
  V := (Int) × (List (Int))
  R := List (Int)
  join := fun k v => ((k, ((), (v.1, ()))), (v.2, ()))
  sk := fun t => t.1.1
  sv := fun t => (t.1.2.2.1, t.2.1)
  step := S_lw_toIntS_0
  leaf := fun _ r => .l (.exit 0 (mkSt ({ slots := [3], sh := (.cons (.arr 7) .nil), obs := [(7, .arr 3 (.int .i64))] }) (((), ()), (r, ()))))

noncomputable def T_lw_toIntS (a1_ : List (Int)) : Tr (List (Int)) :=
  .g (decide ((0 : Int) ≤ ((List.length a1_ : Nat) : Int)) && decide (((List.length a1_ : Nat) : Int) ≤ ((List.length a1_ : Nat) : Int)) && decide (((8 : Nat) : Int) * ((List.length a1_ : Nat) : Int) ≤ 281474976710656)) <|
  .c (List (Int)) (L_lw_toIntS_0 a1_ ((0 : Int), (List.replicate (Int.toNat ((List.length a1_ : Nat) : Int)) (0 : Int)))) fun r5_ =>
  .l r5_

noncomputable def F_lw_toIntS (a1_ : List (Int)) : Option (List (Int)) := (T_lw_toIntS a1_).ev

noncomputable def A_lw_toIntS : Sh := (.cons (.dat (.slice (.int .i64))) .nil)

noncomputable def I_lw_toIntS : List (Nat × OSh) := []

noncomputable def K_lw_toIntS : RetK := { acts := [.ren 7 0], res := [.tmp 2], sh := (.cons (.arr 0) .nil), obs := [(0, .arr 3 (.int .i64))], pins := [] }

noncomputable def D_lw_toIntS : FD where
  A := A_lw_toIntS
  ins := I_lw_toIntS
  lend := []
  R := List (Int)
  F := fun x => F_lw_toIntS x.1.1
  emb := fun r => ([.arr 0], [(0, .arr 3 (.int .i64) r)])

noncomputable def E_lw_toIntS : Env := envOf []

noncomputable def Z_lw_toIntS : Nat → Nat → List Nat := fun _ _ => []

noncomputable def O_lw_toIntS : List (Nat × LD) := [(0, DL_lw_toIntS_0)]

noncomputable def C_lw_toIntS : Code := (f36.body).getD .skip

/-! ### 17 loop.example/g01110/laws.toIntSS -/

noncomputable def S_lw_toIntSS_0 (k : List (List (Int))) (v : (Int) × (List (List (Int)))) : Tr (((Int) × (List (List (Int)))) ⊕ (List (List (Int)))) :=
  .t (decide (v.1 < ((List.length k : Nat) : Int)))
    (.g (inR v.1 (List.length k)) <|
      .c (List (Int)) (F_lw_toIntS (List.getD k (Int.toNat v.1) ([] : List (Int)))) fun r4_ =>
      .g (inR v.1 (List.length v.2)) <|
      .g (decide ((Int.toNat v.1) < List.length v.2)) <|
      .l (.inl ((IntKind.wrap .i64 (v.1 + (1 : Int))), (List.set v.2 (Int.toNat v.1) r4_))))
    (.l (.inr v.2))

noncomputable def L_lw_toIntSS_0 (k : List (List (Int))) (v : (Int) × (List (List (Int)))) : Option (List (List (Int))) := iter (fun v => (S_lw_toIntSS_0 k v).ev) v

noncomputable def DL_lw_toIntSS_0 : LD where
  head := { acts := [], S := { slots := [0, 3, 4], sh := (.cons (.dat (.slice (.slice (.int .i64)))) (.cons (.arr 7) (.cons (.dat (.int .i64)) .nil))), obs := [(7, .arr 29 (.slice (.int .i64)))] } }
  exits := [(0, { acts := [], S := { slots := [3], sh := (.cons (.arr 7) .nil), obs := [(7, .arr 29 (.slice (.int .i64)))] } })]
  rets := { acts := [], S := { slots := [], sh := .nil, obs := [] } }
  K := List (List (Int))
  V := (Int) × (List (List (Int)))
  R := List (List (Int))
  join := fun k v => ((k, ((), (v.1, ()))), (v.2, ()))
  sk := fun t => t.1.1
  sv := fun t => (t.1.2.2.1, t.2.1)
  step := S_lw_toIntSS_0
  leaf := fun _ r => .l (.exit 0 (mkSt ({ slots := [3], sh := (.cons (.arr 7) .nil), obs := [(7, .arr 29 (.slice (.int .i64)))] }) (((), ()), (r, ()))))

noncomputable def T_lw_toIntSS (a1_ : List (List (Int))) : Tr (List (List (Int))) :=
  .g (decide ((0 : Int) ≤ ((List.length a1_ : Nat) : Int)) && decide (((List.length a1_ : Nat) : Int) ≤ ((List.length a1_ : Nat) : Int)) && decide (((24 : Nat) : Int) * ((List.length a1_ : Nat) : Int) ≤ 281474976710656)) <|
  .c (List (List (Int))) (L_lw_toIntSS_0 a1_ ((0 : Int), (List.replicate (Int.toNat ((List.length a1_ : Nat) : Int)) ([] : List (Int))))) fun r6_ =>
  .l r6_

noncomputable def F_lw_toIntSS (a1_ : List (List (Int))) : Option (List (List (Int))) := (T_lw_toIntSS a1_).ev

noncomputable def A_lw_toIntSS : Sh := (.cons (.dat (.slice (.slice (.int .i64)))) .nil)

noncomputable def I_lw_toIntSS : List (Nat × OSh) := []

noncomputable def K_lw_toIntSS : RetK := { acts := [.ren 7 0], res := [.tmp 2], sh := (.cons (.arr 0) .nil), obs := [(0, .arr 29 (.slice (.int .i64)))], pins := [] }

noncomputable def D_lw_toIntSS : FD where
  A := A_lw_toIntSS
  ins := I_lw_toIntSS
  lend := []
  R := List (List (Int))
  F := fun x => F_lw_toIntSS x.1.1
  emb := fun r => ([.arr 0], [(0, .arr 29 (.slice (.int .i64)) r)])

noncomputable def E_lw_toIntSS : Env := envOf [(36, D_lw_toIntS)]

noncomputable def Z_lw_toIntSS : Nat → Nat → List Nat := fun r i => match look [(5, [(8, [20])])] r with
  | some l => (look l i).getD []
  | none => []

noncomputable def O_lw_toIntSS : List (Nat × LD) := [(0, DL_lw_toIntSS_0)]

noncomputable def C_lw_toIntSS : Code := (f17.body).getD .skip

/-! ### 24 loop.example/g01110/laws.toField -/

noncomputable def T_lw_toField (a1_ : List (Int)) (a2_ : List (List (Int))) : Tr ((List (Int)) × (List (List (Int)))) :=
  .c (List (Int)) (F_lw_toIntS a1_) fun r1_ =>
  .c (List (List (Int))) (F_lw_toIntSS a2_) fun r2_ =>
  .l (r1_, r2_)

noncomputable def F_lw_toField (a1_ : List (Int)) (a2_ : List (List (Int))) : Option ((List (Int)) × (List (List (Int)))) := (T_lw_toField a1_ a2_).ev

noncomputable def A_lw_toField : Sh := (.cons (.agg (.cons (.dat (.slice (.int .i64))) (.cons (.dat (.slice (.slice (.int .i64)))) .nil))) .nil)

noncomputable def I_lw_toField : List (Nat × OSh) := []

noncomputable def K_lw_toField : RetK := { acts := [.fz 384, .fz 640], res := [.cell 2 33], sh := (.cons (.agg (.cons (.dat (.slice (.int .i64))) (.cons (.dat (.slice (.slice (.int .i64)))) .nil))) .nil), obs := [], pins := [] }

noncomputable def D_lw_toField : FD where
  A := A_lw_toField
  ins := I_lw_toField
  lend := []
  R := (List (Int)) × (List (List (Int)))
  F := fun x => F_lw_toField x.1.1.1 x.1.1.2.1
  emb := fun r => ([.agg [.dat (.slice (.int .i64)) r.1, .dat (.slice (.slice (.int .i64))) r.2]], [])

noncomputable def E_lw_toField : Env := envOf [(36, D_lw_toIntS), (17, D_lw_toIntSS)]

noncomputable def Z_lw_toField : Nat → Nat → List Nat := fun _ _ => []

noncomputable def O_lw_toField : List (Nat × LD) := []

noncomputable def C_lw_toField : Code := (f24.body).getD .skip

/-! ### 33 loop.example/g01110/laws.toAtlas -/

noncomputable def T_lw_toAtlas (a1_ : List (Int)) (a2_ : List (List (Int))) (a3_ : List (Int)) (a4_ : Int) : Tr ((List (Int)) × ((List (List (Int))) × ((List (Int)) × (Int)))) :=
  .c ((List (Int)) × (List (List (Int)))) (F_lw_toField a1_ a2_) fun r1_ =>
  .c (List (Int)) (F_lw_toIntS a3_) fun r2_ =>
  .l (r1_.1, (r1_.2, (r2_, a4_)))

noncomputable def F_lw_toAtlas (a1_ : List (Int)) (a2_ : List (List (Int))) (a3_ : List (Int)) (a4_ : Int) : Option ((List (Int)) × ((List (List (Int))) × ((List (Int)) × (Int)))) := (T_lw_toAtlas a1_ a2_ a3_ a4_).ev

noncomputable def A_lw_toAtlas : Sh := (.cons (.agg (.cons (.dat (.slice (.int .i64))) (.cons (.dat (.slice (.slice (.int .i64)))) (.cons (.dat (.slice (.int .i64))) (.cons (.dat (.int .i64)) .nil))))) .nil)

noncomputable def I_lw_toAtlas : List (Nat × OSh) := []

noncomputable def K_lw_toAtlas : RetK := { acts := [.fz 640], res := [.cell 2 35], sh := (.cons (.agg (.cons (.dat (.slice (.int .i64))) (.cons (.dat (.slice (.slice (.int .i64)))) (.cons (.dat (.slice (.int .i64))) (.cons (.dat (.int .i64)) .nil))))) .nil), obs := [], pins := [] }

noncomputable def D_lw_toAtlas : FD where
  A := A_lw_toAtlas
  ins := I_lw_toAtlas
  lend := []
  R := (List (Int)) × ((List (List (Int))) × ((List (Int)) × (Int)))
  F := fun x => F_lw_toAtlas x.1.1.1 x.1.1.2.1 x.1.1.2.2.1 x.1.1.2.2.2.1
  emb := fun r => ([.agg [.dat (.slice (.int .i64)) r.1, .dat (.slice (.slice (.int .i64))) r.2.1, .dat (.slice (.int .i64)) r.2.2.1, .dat (.int .i64) r.2.2.2]], [])

noncomputable def E_lw_toAtlas : Env := envOf [(24, D_lw_toField), (36, D_lw_toIntS)]

noncomputable def Z_lw_toAtlas : Nat → Nat → List Nat := fun _ _ => []

noncomputable def O_lw_toAtlas : List (Nat × LD) := []

noncomputable def C_lw_toAtlas : Code := (f33.body).getD .skip

/-! ### 93 loop.example/g01110/spec.l1In -/

noncomputable def T_sp_l1In (a1_ : Int) (a2_ : Int) (a3_ : Int) : Tr (Bool) :=
  .t (decide (a2_ ≤ a1_))
    (.l (decide (a1_ ≤ a3_)))
    (.l false)

noncomputable def F_sp_l1In (a1_ : Int) (a2_ : Int) (a3_ : Int) : Option (Bool) := (T_sp_l1In a1_ a2_ a3_).ev

noncomputable def A_sp_l1In : Sh := (.cons (.dat (.int .i64)) (.cons (.dat (.int .i64)) (.cons (.dat (.int .i64)) .nil)))

noncomputable def I_sp_l1In : List (Nat × OSh) := []

noncomputable def K_sp_l1In : RetK := { acts := [], res := [.tmp 6], sh := (.cons (.dat .bool) .nil), obs := [], pins := [] }

noncomputable def D_sp_l1In : FD where
  A := A_sp_l1In
  ins := I_sp_l1In
  lend := []
  R := Bool
  F := fun x => F_sp_l1In x.1.1 x.1.2.1 x.1.2.2.1
  emb := fun r => ([.dat .bool r], [])

noncomputable def E_sp_l1In : Env := envOf []

noncomputable def Z_sp_l1In : Nat → Nat → List Nat := fun _ _ => []

noncomputable def O_sp_l1In : List (Nat × LD) := []

noncomputable def C_sp_l1In : Code := (f93.body).getD .skip

/-! ### 118 loop.example/g01110/spec.l2Row -/

noncomputable def S_sp_l2Row_0 (k : (List (Int)) × ((Int) × (Int))) (v : Int) : Tr ((Int) ⊕ ((Unit) ⊕ (Unit))) :=
  .t (decide (v < ((List.length k.1 : Nat) : Int)))
    (.g (inR v (List.length k.1)) <|
      .c (Bool) (F_sp_l1In (List.getD k.1 (Int.toNat v) (0 : Int)) (0 : Int) k.2.2) fun r5_ =>
      .t (!r5_)
        (.l (.inr (.inr ())))
        (.l (.inl (IntKind.wrap .i64 (v + (1 : Int))))))
    (.l (.inr (.inl ())))

noncomputable def L_sp_l2Row_0 (k : (List (Int)) × ((Int) × (Int))) (v : Int) : Option ((Unit) ⊕ (Unit)) := iter (fun v => (S_sp_l2Row_0 k v).ev) v

noncomputable def DL_sp_l2Row_0 : LD where
  head := { acts := [], S := { slots := [0, 1, 2, 7], sh := (.cons (.dat (.slice (.int .i64))) (.cons (.dat (.int .i64)) (.cons (.dat (.int .i64)) (.cons (.dat (.int .i64)) .nil)))), obs := [] } }
  exits := [(0, { acts := [], S := { slots := [0, 1], sh := (.cons (.dat (.slice (.int .i64))) (.cons (.dat (.int .i64)) .nil)), obs := [] } })]
  rets := { acts := [], S := { slots := [6], sh := (.cons (.dat .bool) .nil), obs := [] } }
  K := (List (Int)) × ((Int) × (Int))
  V := Int
  R := (Unit) ⊕ (Unit)
  join := fun k v => ((k.1, (k.2.1, (k.2.2, (v, ())))), ())
  sk := fun t => (t.1.1, (t.1.2.1, t.1.2.2.1))
  sv := fun t => t.1.2.2.2.1
  step := S_sp_l2Row_0
  leaf := fun k r => .s (Unit) (Unit) r (fun _ => .l (.exit 0 (mkSt ({ slots := [0, 1], sh := (.cons (.dat (.slice (.int .i64))) (.cons (.dat (.int .i64)) .nil)), obs := [] }) ((k.1, (k.2.1, ())), ())))) (fun _ => .l (.ret (mkSt ({ slots := [6], sh := (.cons (.dat .bool) .nil), obs := [] }) ((false, ()), ()))))

noncomputable def T_sp_l2Row (a1_ : List (Int)) (a2_ : Int) (a3_ : Int) : Tr (Bool) :=
  .c ((Unit) ⊕ (Unit)) (L_sp_l2Row_0 (a1_, (a2_, a3_)) (0 : Int)) fun r9_ =>
  .s (Unit) (Unit) r9_
    (fun _ => .l (((List.length a1_ : Nat) : Int) == a2_))
    (fun _ => .l false)

noncomputable def F_sp_l2Row (a1_ : List (Int)) (a2_ : Int) (a3_ : Int) : Option (Bool) := (T_sp_l2Row a1_ a2_ a3_).ev

noncomputable def A_sp_l2Row : Sh := (.cons (.dat (.slice (.int .i64))) (.cons (.dat (.int .i64)) (.cons (.dat (.int .i64)) .nil)))

noncomputable def I_sp_l2Row : List (Nat × OSh) := []

noncomputable def K_sp_l2Row : RetK := { acts := [], res := [.tmp 6], sh := (.cons (.dat .bool) .nil), obs := [], pins := [] }

noncomputable def D_sp_l2Row : FD where
  A := A_sp_l2Row
  ins := I_sp_l2Row
  lend := []
  R := Bool
  F := fun x => F_sp_l2Row x.1.1 x.1.2.1 x.1.2.2.1
  emb := fun r => ([.dat .bool r], [])

noncomputable def E_sp_l2Row : Env := envOf [(93, D_sp_l1In)]

noncomputable def Z_sp_l2Row : Nat → Nat → List Nat := fun _ _ => []

noncomputable def O_sp_l2Row : List (Nat × LD) := [(0, DL_sp_l2Row_0)]

noncomputable def C_sp_l2Row : Code := (f118.body).getD .skip

/-! ### 138 loop.example/g01110/spec.l2Good -/

noncomputable def S_sp_l2Good_0 (k : (Int) × ((List (Int)) × (List (List (Int))))) (v : Int) : Tr ((Int) ⊕ ((Unit) ⊕ (Unit))) :=
  .t (decide (v < ((List.length k.2.2 : Nat) : Int)))
    (.g (inR v (List.length k.2.2)) <|
      .c (Bool) (F_sp_l2Row (List.getD k.2.2 (Int.toNat v) ([] : List (Int))) k.1 (99 : Int)) fun r5_ =>
      .t (!r5_)
        (.l (.inr (.inr ())))
        (.l (.inl (IntKind.wrap .i64 (v + (1 : Int))))))
    (.l (.inr (.inl ())))

noncomputable def L_sp_l2Good_0 (k : (Int) × ((List (Int)) × (List (List (Int))))) (v : Int) : Option ((Unit) ⊕ (Unit)) := iter (fun v => (S_sp_l2Good_0 k v).ev) v

noncomputable def DL_sp_l2Good_0 : LD where
  head := { acts := [], S := { slots := [1, 3, 4], sh := (.cons (.box 1 0) (.cons (.dat (.int .i64)) (.cons (.dat (.int .i64)) .nil))), obs := [(1, .cells (.cons (.dat (.slice (.int .i64))) (.cons (.dat (.slice (.slice (.int .i64)))) .nil)))] } }
  exits := [(0, { acts := [], S := { slots := [1, 3], sh := (.cons (.box 1 0) (.cons (.dat (.int .i64)) .nil)), obs := [(1, .cells (.cons (.dat (.slice (.int .i64))) (.cons (.dat (.slice (.slice (.int .i64)))) .nil)))] } })]
  rets := { acts := [], S := { slots := [2], sh := (.cons (.dat .bool) .nil), obs := [] } }
  K := (Int) × ((List (Int)) × (List (List (Int))))
  V := Int
  R := (Unit) ⊕ (Unit)
  join := fun k v => (((), (k.1, (v, ()))), ((k.2.1, (k.2.2, ())), ()))
  sk := fun t => (t.1.2.1, (t.2.1.1, t.2.1.2.1))
  sv := fun t => t.1.2.2.1
  step := S_sp_l2Good_0
  leaf := fun k r => .s (Unit) (Unit) r (fun _ => .l (.exit 0 (mkSt ({ slots := [1, 3], sh := (.cons (.box 1 0) (.cons (.dat (.int .i64)) .nil)), obs := [(1, .cells (.cons (.dat (.slice (.int .i64))) (.cons (.dat (.slice (.slice (.int .i64)))) .nil)))] }) (((), (k.1, ())), ((k.2.1, (k.2.2, ())), ()))))) (fun _ => .l (.ret (mkSt ({ slots := [2], sh := (.cons (.dat .bool) .nil), obs := [] }) ((false, ()), ()))))

noncomputable def T_sp_l2Good (a1_ : List (Int)) (a2_ : List (List (Int))) : Tr (Bool) :=
  .c ((Unit) ⊕ (Unit)) (L_sp_l2Good_0 (((List.length a1_ : Nat) : Int), (a1_, a2_)) (0 : Int)) fun r10_ =>
  .s (Unit) (Unit) r10_
    (fun _ => .c (Bool) (F_sp_l1In ((List.length a1_ : Nat) : Int) (1 : Int) (7 : Int)) fun r13_ =>
      .t r13_
        (.c (Bool) (F_sp_l2Row a1_ ((List.length a1_ : Nat) : Int) (99 : Int)) fun r14_ =>
          .t r14_
            (.l (decide (((List.length a2_ : Nat) : Int) ≤ (7 : Int))))
            (.l false))
        (.l false))
    (fun _ => .l false)

noncomputable def F_sp_l2Good (a1_ : List (Int)) (a2_ : List (List (Int))) : Option (Bool) := (T_sp_l2Good a1_ a2_).ev

noncomputable def A_sp_l2Good : Sh := (.cons (.agg (.cons (.dat (.slice (.int .i64))) (.cons (.dat (.slice (.slice (.int .i64)))) .nil))) .nil)

noncomputable def I_sp_l2Good : List (Nat × OSh) := []

noncomputable def K_sp_l2Good : RetK := { acts := [], res := [.tmp 2], sh := (.cons (.dat .bool) .nil), obs := [], pins := [] }

noncomputable def D_sp_l2Good : FD where
  A := A_sp_l2Good
  ins := I_sp_l2Good
  lend := []
  R := Bool
  F := fun x => F_sp_l2Good x.1.1.1 x.1.1.2.1
  emb := fun r => ([.dat .bool r], [])

noncomputable def E_sp_l2Good : Env := envOf [(118, D_sp_l2Row), (93, D_sp_l1In)]

noncomputable def Z_sp_l2Good : Nat → Nat → List Nat := fun _ _ => []

noncomputable def O_sp_l2Good : List (Nat × LD) := [(0, DL_sp_l2Good_0)]

noncomputable def C_sp_l2Good : Code := (f138.body).getD .skip

/-! ### 178 loop.example/g01110/spec.l1Rising -/

noncomputable def S_sp_l1Rising_0 (k : (List (Int)) × ((Int) × (Int))) (v : Int) : Tr ((Int) ⊕ ((Unit) ⊕ (Unit))) :=
  .t (decide (v < ((List.length k.1 : Nat) : Int)))
    (.g (inR v (List.length k.1)) <|
      .c (Bool) (F_sp_l1In (List.getD k.1 (Int.toNat v) (0 : Int)) k.2.1 k.2.2) fun r5_ =>
      .t (!r5_)
        (.l (.inr (.inr ())))
        (.t (decide ((0 : Int) < v))
            (.g (inR (IntKind.wrap .i64 (v - (1 : Int))) (List.length k.1)) <|
              .g (inR v (List.length k.1)) <|
              .t (decide ((List.getD k.1 (Int.toNat v) (0 : Int)) ≤ (List.getD k.1 (Int.toNat (IntKind.wrap .i64 (v - (1 : Int)))) (0 : Int))))
                (.l (.inr (.inr ())))
                (.l (.inl (IntKind.wrap .i64 (v + (1 : Int))))))
            (.l (.inl (IntKind.wrap .i64 (v + (1 : Int)))))))
    (.l (.inr (.inl ())))

noncomputable def L_sp_l1Rising_0 (k : (List (Int)) × ((Int) × (Int))) (v : Int) : Option ((Unit) ⊕ (Unit)) := iter (fun v => (S_sp_l1Rising_0 k v).ev) v

noncomputable def DL_sp_l1Rising_0 : LD where
  head := { acts := [], S := { slots := [0, 1, 2, 7], sh := (.cons (.dat (.slice (.int .i64))) (.cons (.dat (.int .i64)) (.cons (.dat (.int .i64)) (.cons (.dat (.int .i64)) .nil)))), obs := [] } }
  exits := [(0, { acts := [], S := { slots := [], sh := .nil, obs := [] } })]
  rets := { acts := [], S := { slots := [6], sh := (.cons (.dat .bool) .nil), obs := [] } }
  K := (List (Int)) × ((Int) × (Int))
  V := Int
  R := (Unit) ⊕ (Unit)
  join := fun k v => ((k.1, (k.2.1, (k.2.2, (v, ())))), ())
  sk := fun t => (t.1.1, (t.1.2.1, t.1.2.2.1))
  sv := fun t => t.1.2.2.2.1
  step := S_sp_l1Rising_0
  leaf := fun _ r => .s (Unit) (Unit) r (fun _ => .l (.exit 0 (mkSt ({ slots := [], sh := .nil, obs := [] }) ((), ())))) (fun _ => .l (.ret (mkSt ({ slots := [6], sh := (.cons (.dat .bool) .nil), obs := [] }) ((false, ()), ()))))

noncomputable def T_sp_l1Rising (a1_ : List (Int)) (a2_ : Int) (a3_ : Int) : Tr (Bool) :=
  .c ((Unit) ⊕ (Unit)) (L_sp_l1Rising_0 (a1_, (a2_, a3_)) (0 : Int)) fun r7_ =>
  .s (Unit) (Unit) r7_
    (fun _ => .l true)
    (fun _ => .l false)

noncomputable def F_sp_l1Rising (a1_ : List (Int)) (a2_ : Int) (a3_ : Int) : Option (Bool) := (T_sp_l1Rising a1_ a2_ a3_).ev

noncomputable def A_sp_l1Rising : Sh := (.cons (.dat (.slice (.int .i64))) (.cons (.dat (.int .i64)) (.cons (.dat (.int .i64)) .nil)))

noncomputable def I_sp_l1Rising : List (Nat × OSh) := []

noncomputable def K_sp_l1Rising : RetK := { acts := [], res := [.tmp 6], sh := (.cons (.dat .bool) .nil), obs := [], pins := [] }

noncomputable def D_sp_l1Rising : FD where
  A := A_sp_l1Rising
  ins := I_sp_l1Rising
  lend := []
  R := Bool
  F := fun x => F_sp_l1Rising x.1.1 x.1.2.1 x.1.2.2.1
  emb := fun r => ([.dat .bool r], [])

noncomputable def E_sp_l1Rising : Env := envOf [(93, D_sp_l1In)]

noncomputable def Z_sp_l1Rising : Nat → Nat → List Nat := fun _ _ => []

noncomputable def O_sp_l1Rising : List (Nat × LD) := [(0, DL_sp_l1Rising_0)]

noncomputable def C_sp_l1Rising : Code := (f178.body).getD .skip

/-! ### 139 loop.example/g01110/spec.l2Set -/

noncomputable def T_sp_l2Set (a1_ : List (Int)) (_a2_ : List (List (Int))) (a3_ : List (Int)) : Tr (Bool) :=
  .c (Bool) (F_sp_l1Rising a3_ (0 : Int) (IntKind.wrap .i64 (((List.length a1_ : Nat) : Int) - (1 : Int)))) fun r1_ =>
  .l r1_

noncomputable def F_sp_l2Set (a1_ : List (Int)) (a2_ : List (List (Int))) (a3_ : List (Int)) : Option (Bool) := (T_sp_l2Set a1_ a2_ a3_).ev

noncomputable def A_sp_l2Set : Sh := (.cons (.agg (.cons (.dat (.slice (.int .i64))) (.cons (.dat (.slice (.slice (.int .i64)))) .nil))) (.cons (.dat (.slice (.int .i64))) .nil))

noncomputable def I_sp_l2Set : List (Nat × OSh) := []

noncomputable def K_sp_l2Set : RetK := { acts := [], res := [.tmp 4], sh := (.cons (.dat .bool) .nil), obs := [], pins := [] }

noncomputable def D_sp_l2Set : FD where
  A := A_sp_l2Set
  ins := I_sp_l2Set
  lend := []
  R := Bool
  F := fun x => F_sp_l2Set x.1.1.1 x.1.1.2.1 x.1.2.1
  emb := fun r => ([.dat .bool r], [])

noncomputable def E_sp_l2Set : Env := envOf [(178, D_sp_l1Rising)]

noncomputable def Z_sp_l2Set : Nat → Nat → List Nat := fun _ _ => []

noncomputable def O_sp_l2Set : List (Nat × LD) := []

noncomputable def C_sp_l2Set : Code := (f139.body).getD .skip

/-! ### 77 loop.example/g01110/spec.l12Good -/

noncomputable def T_sp_l12Good (a1_ : List (Int)) (a2_ : List (List (Int))) (a3_ : List (Int)) (a4_ : Int) : Tr (Bool) :=
  .c (Bool) (F_sp_l2Good a1_ a2_) fun r1_ =>
  .t r1_
    (.c (Bool) (F_sp_l2Set a1_ a2_ a3_) fun r2_ =>
      .t r2_
        (.c (Bool) (F_sp_l1In a4_ (0 : Int) (1000 : Int)) fun r3_ =>
          .l r3_)
        (.l false))
    (.l false)

noncomputable def F_sp_l12Good (a1_ : List (Int)) (a2_ : List (List (Int))) (a3_ : List (Int)) (a4_ : Int) : Option (Bool) := (T_sp_l12Good a1_ a2_ a3_ a4_).ev

noncomputable def A_sp_l12Good : Sh := (.cons (.agg (.cons (.dat (.slice (.int .i64))) (.cons (.dat (.slice (.slice (.int .i64)))) (.cons (.dat (.slice (.int .i64))) (.cons (.dat (.int .i64)) .nil))))) .nil)

noncomputable def I_sp_l12Good : List (Nat × OSh) := []

noncomputable def K_sp_l12Good : RetK := { acts := [], res := [.tmp 2], sh := (.cons (.dat .bool) .nil), obs := [], pins := [] }

noncomputable def D_sp_l12Good : FD where
  A := A_sp_l12Good
  ins := I_sp_l12Good
  lend := []
  R := Bool
  F := fun x => F_sp_l12Good x.1.1.1 x.1.1.2.1 x.1.1.2.2.1 x.1.1.2.2.2.1
  emb := fun r => ([.dat .bool r], [])

noncomputable def E_sp_l12Good : Env := envOf [(138, D_sp_l2Good), (139, D_sp_l2Set), (93, D_sp_l1In)]

noncomputable def Z_sp_l12Good : Nat → Nat → List Nat := fun _ _ => []

noncomputable def O_sp_l12Good : List (Nat × LD) := []

noncomputable def C_sp_l12Good : Code := (f77.body).getD .skip

/-! ### 185 loop.example/g01110/spec.l2Site -/

noncomputable def S_sp_l2Site_0 (k : (Int) × ((List (Int)) × ((List (Int)) × (List (List (Int)))))) (v : (Int) × (Int)) : Tr (((Int) × (Int)) ⊕ (Int)) :=
  .t (decide (v.2 < ((List.length k.2.1 : Nat) : Int)))
    (.g (inR k.1 (List.length k.2.2.2)) <|
      .g (inR v.2 (List.length k.2.1)) <|
      .g (inR (List.getD k.2.1 (Int.toNat v.2) (0 : Int)) (List.length (List.getD k.2.2.2 (Int.toNat k.1) ([] : List (Int))))) <|
      .g (inR k.1 (List.length k.2.2.2)) <|
      .g (inR v.1 (List.length (List.getD k.2.2.2 (Int.toNat k.1) ([] : List (Int))))) <|
      .t (decide ((List.getD (List.getD k.2.2.2 (Int.toNat k.1) ([] : List (Int))) (Int.toNat (List.getD k.2.1 (Int.toNat v.2) (0 : Int))) (0 : Int)) < (List.getD (List.getD k.2.2.2 (Int.toNat k.1) ([] : List (Int))) (Int.toNat v.1) (0 : Int))))
        (.g (inR v.2 (List.length k.2.1)) <|
          .l (.inl ((List.getD k.2.1 (Int.toNat v.2) (0 : Int)), (IntKind.wrap .i64 (v.2 + (1 : Int))))))
        (.l (.inl (v.1, (IntKind.wrap .i64 (v.2 + (1 : Int)))))))
    (.l (.inr v.1))

noncomputable def L_sp_l2Site_0 (k : (Int) × ((List (Int)) × ((List (Int)) × (List (List (Int)))))) (v : (Int) × (Int)) : Option (Int) := iter (fun v => (S_sp_l2Site_0 k v).ev) v

noncomputable def DL_sp_l2Site_0 : LD where
  head := { acts := [], S := { slots := [1, 2, 3, 7, 8], sh := (.cons (.dat (.int .i64)) (.cons (.dat (.slice (.int .i64))) (.cons (.box 3 0) (.cons (.dat (.int .i64)) (.cons (.dat (.int .i64)) .nil))))), obs := [(3, .cells (.cons (.dat (.slice (.int .i64))) (.cons (.dat (.slice (.slice (.int .i64)))) .nil)))] } }
  exits := [(0, { acts := [], S := { slots := [7], sh := (.cons (.dat (.int .i64)) .nil), obs := [] } })]
  rets := { acts := [], S := { slots := [], sh := .nil, obs := [] } }
  K := (Int) × ((List (Int)) × ((List (Int)) × (List (List (Int)))))
  V := (Int) × (Int)
  R := Int
  join := fun k v => ((k.1, (k.2.1, ((), (v.1, (v.2, ()))))), ((k.2.2.1, (k.2.2.2, ())), ()))
  sk := fun t => (t.1.1, (t.1.2.1, (t.2.1.1, t.2.1.2.1)))
  sv := fun t => (t.1.2.2.2.1, t.1.2.2.2.2.1)
  step := S_sp_l2Site_0
  leaf := fun _ r => .l (.exit 0 (mkSt ({ slots := [7], sh := (.cons (.dat (.int .i64)) .nil), obs := [] }) ((r, ()), ())))

noncomputable def T_sp_l2Site (a1_ : List (Int)) (a2_ : List (List (Int))) (a3_ : Int) (a4_ : List (Int)) : Tr (Int) :=
  .g (inR (0 : Int) (List.length a4_)) <|
  .c (Int) (L_sp_l2Site_0 (a3_, (a4_, (a1_, a2_))) ((List.getD a4_ (Int.toNat (0 : Int)) (0 : Int)), (1 : Int))) fun r8_ =>
  .l r8_

noncomputable def F_sp_l2Site (a1_ : List (Int)) (a2_ : List (List (Int))) (a3_ : Int) (a4_ : List (Int)) : Option (Int) := (T_sp_l2Site a1_ a2_ a3_ a4_).ev

noncomputable def A_sp_l2Site : Sh := (.cons (.agg (.cons (.dat (.slice (.int .i64))) (.cons (.dat (.slice (.slice (.int .i64)))) .nil))) (.cons (.dat (.int .i64)) (.cons (.dat (.slice (.int .i64))) .nil)))

noncomputable def I_sp_l2Site : List (Nat × OSh) := []

noncomputable def K_sp_l2Site : RetK := { acts := [], res := [.tmp 6], sh := (.cons (.dat (.int .i64)) .nil), obs := [], pins := [] }

noncomputable def D_sp_l2Site : FD where
  A := A_sp_l2Site
  ins := I_sp_l2Site
  lend := []
  R := Int
  F := fun x => F_sp_l2Site x.1.1.1 x.1.1.2.1 x.1.2.1 x.1.2.2.1
  emb := fun r => ([.dat (.int .i64) r], [])

noncomputable def E_sp_l2Site : Env := envOf []

noncomputable def Z_sp_l2Site : Nat → Nat → List Nat := fun _ _ => []

noncomputable def O_sp_l2Site : List (Nat × LD) := [(0, DL_sp_l2Site_0)]

noncomputable def C_sp_l2Site : Code := (f185.body).getD .skip

/-! ### 164 loop.example/g01110/spec.l2Nearest -/

noncomputable def T_sp_l2Nearest (a1_ : List (Int)) (a2_ : List (List (Int))) (a3_ : Int) (a4_ : List (Int)) : Tr (Int) :=
  .g (inR a3_ (List.length a2_)) <|
  .c (Int) (F_sp_l2Site a1_ a2_ a3_ a4_) fun r1_ =>
  .g (inR r1_ (List.length (List.getD a2_ (Int.toNat a3_) ([] : List (Int))))) <|
  .l (List.getD (List.getD a2_ (Int.toNat a3_) ([] : List (Int))) (Int.toNat r1_) (0 : Int))

noncomputable def F_sp_l2Nearest (a1_ : List (Int)) (a2_ : List (List (Int))) (a3_ : Int) (a4_ : List (Int)) : Option (Int) := (T_sp_l2Nearest a1_ a2_ a3_ a4_).ev

noncomputable def A_sp_l2Nearest : Sh := (.cons (.agg (.cons (.dat (.slice (.int .i64))) (.cons (.dat (.slice (.slice (.int .i64)))) .nil))) (.cons (.dat (.int .i64)) (.cons (.dat (.slice (.int .i64))) .nil)))

noncomputable def I_sp_l2Nearest : List (Nat × OSh) := []

noncomputable def K_sp_l2Nearest : RetK := { acts := [], res := [.tmp 6], sh := (.cons (.dat (.int .i64)) .nil), obs := [], pins := [] }

noncomputable def D_sp_l2Nearest : FD where
  A := A_sp_l2Nearest
  ins := I_sp_l2Nearest
  lend := []
  R := Int
  F := fun x => F_sp_l2Nearest x.1.1.1 x.1.1.2.1 x.1.2.1 x.1.2.2.1
  emb := fun r => ([.dat (.int .i64) r], [])

noncomputable def E_sp_l2Nearest : Env := envOf [(185, D_sp_l2Site)]

noncomputable def Z_sp_l2Nearest : Nat → Nat → List Nat := fun _ _ => []

noncomputable def O_sp_l2Nearest : List (Nat × LD) := []

noncomputable def C_sp_l2Nearest : Code := (f164.body).getD .skip

/-! ### 144 loop.example/g01110/spec.l2Serve -/

noncomputable def S_sp_l2Serve_0 (k : (List (Int)) × ((List (Int)) × (List (List (Int))))) (v : (Int) × (Int)) : Tr (((Int) × (Int)) ⊕ (Int)) :=
  .t (decide (v.2 < ((List.length k.2.2 : Nat) : Int)))
    (.c (Int) (F_sp_l2Nearest k.2.1 k.2.2 v.2 k.1) fun r6_ =>
      .l (.inl ((IntKind.wrap .i64 (v.1 + r6_)), (IntKind.wrap .i64 (v.2 + (1 : Int))))))
    (.l (.inr v.1))

noncomputable def L_sp_l2Serve_0 (k : (List (Int)) × ((List (Int)) × (List (List (Int))))) (v : (Int) × (Int)) : Option (Int) := iter (fun v => (S_sp_l2Serve_0 k v).ev) v

noncomputable def DL_sp_l2Serve_0 : LD where
  head := { acts := [], S := { slots := [1, 2, 5, 6], sh := (.cons (.dat (.slice (.int .i64))) (.cons (.box 2 0) (.cons (.dat (.int .i64)) (.cons (.dat (.int .i64)) .nil)))), obs := [(2, .cells (.cons (.dat (.slice (.int .i64))) (.cons (.dat (.slice (.slice (.int .i64)))) .nil)))] } }
  exits := [(0, { acts := [], S := { slots := [5], sh := (.cons (.dat (.int .i64)) .nil), obs := [] } })]
  rets := { acts := [], S := { slots := [], sh := .nil, obs := [] } }
  K := (List (Int)) × ((List (Int)) × (List (List (Int))))
  V := (Int) × (Int)
  R := Int
  join := fun k v => ((k.1, ((), (v.1, (v.2, ())))), ((k.2.1, (k.2.2, ())), ()))
  sk := fun t => (t.1.1, (t.2.1.1, t.2.1.2.1))
  sv := fun t => (t.1.2.2.1, t.1.2.2.2.1)
  step := S_sp_l2Serve_0
  leaf := fun _ r => .l (.exit 0 (mkSt ({ slots := [5], sh := (.cons (.dat (.int .i64)) .nil), obs := [] }) ((r, ()), ())))

noncomputable def T_sp_l2Serve (a1_ : List (Int)) (a2_ : List (List (Int))) (a3_ : List (Int)) : Tr (Int) :=
  .c (Int) (L_sp_l2Serve_0 (a3_, (a1_, a2_)) ((0 : Int), (0 : Int))) fun r8_ =>
  .l r8_

noncomputable def F_sp_l2Serve (a1_ : List (Int)) (a2_ : List (List (Int))) (a3_ : List (Int)) : Option (Int) := (T_sp_l2Serve a1_ a2_ a3_).ev

noncomputable def A_sp_l2Serve : Sh := (.cons (.agg (.cons (.dat (.slice (.int .i64))) (.cons (.dat (.slice (.slice (.int .i64)))) .nil))) (.cons (.dat (.slice (.int .i64))) .nil))

noncomputable def I_sp_l2Serve : List (Nat × OSh) := []

noncomputable def K_sp_l2Serve : RetK := { acts := [], res := [.tmp 4], sh := (.cons (.dat (.int .i64)) .nil), obs := [], pins := [] }

noncomputable def D_sp_l2Serve : FD where
  A := A_sp_l2Serve
  ins := I_sp_l2Serve
  lend := []
  R := Int
  F := fun x => F_sp_l2Serve x.1.1.1 x.1.1.2.1 x.1.2.1
  emb := fun r => ([.dat (.int .i64) r], [])

noncomputable def E_sp_l2Serve : Env := envOf [(164, D_sp_l2Nearest)]

noncomputable def Z_sp_l2Serve : Nat → Nat → List Nat := fun _ _ => []

noncomputable def O_sp_l2Serve : List (Nat × LD) := [(0, DL_sp_l2Serve_0)]

noncomputable def C_sp_l2Serve : Code := (f144.body).getD .skip

/-! ### 145 loop.example/g01110/spec.l2Pay -/

noncomputable def S_sp_l2Pay_0 (k : (List (Int)) × ((List (Int)) × (List (List (Int))))) (v : (Int) × (Int)) : Tr (((Int) × (Int)) ⊕ (Int)) :=
  .t (decide (v.2 < ((List.length k.1 : Nat) : Int)))
    (.g (inR v.2 (List.length k.1)) <|
      .g (inR (List.getD k.1 (Int.toNat v.2) (0 : Int)) (List.length k.2.1)) <|
      .l (.inl ((IntKind.wrap .i64 (v.1 + (List.getD k.2.1 (Int.toNat (List.getD k.1 (Int.toNat v.2) (0 : Int))) (0 : Int)))), (IntKind.wrap .i64 (v.2 + (1 : Int))))))
    (.l (.inr v.1))

noncomputable def L_sp_l2Pay_0 (k : (List (Int)) × ((List (Int)) × (List (List (Int))))) (v : (Int) × (Int)) : Option (Int) := iter (fun v => (S_sp_l2Pay_0 k v).ev) v

noncomputable def DL_sp_l2Pay_0 : LD where
  head := { acts := [], S := { slots := [1, 2, 5, 6], sh := (.cons (.dat (.slice (.int .i64))) (.cons (.box 2 0) (.cons (.dat (.int .i64)) (.cons (.dat (.int .i64)) .nil)))), obs := [(2, .cells (.cons (.dat (.slice (.int .i64))) (.cons (.dat (.slice (.slice (.int .i64)))) .nil)))] } }
  exits := [(0, { acts := [], S := { slots := [5], sh := (.cons (.dat (.int .i64)) .nil), obs := [] } })]
  rets := { acts := [], S := { slots := [], sh := .nil, obs := [] } }
  K := (List (Int)) × ((List (Int)) × (List (List (Int))))
  V := (Int) × (Int)
  R := Int
  join := fun k v => ((k.1, ((), (v.1, (v.2, ())))), ((k.2.1, (k.2.2, ())), ()))
  sk := fun t => (t.1.1, (t.2.1.1, t.2.1.2.1))
  sv := fun t => (t.1.2.2.1, t.1.2.2.2.1)
  step := S_sp_l2Pay_0
  leaf := fun _ r => .l (.exit 0 (mkSt ({ slots := [5], sh := (.cons (.dat (.int .i64)) .nil), obs := [] }) ((r, ()), ())))

noncomputable def T_sp_l2Pay (a1_ : List (Int)) (a2_ : List (List (Int))) (a3_ : List (Int)) : Tr (Int) :=
  .c (Int) (L_sp_l2Pay_0 (a3_, (a1_, a2_)) ((0 : Int), (0 : Int))) fun r7_ =>
  .l r7_

noncomputable def F_sp_l2Pay (a1_ : List (Int)) (a2_ : List (List (Int))) (a3_ : List (Int)) : Option (Int) := (T_sp_l2Pay a1_ a2_ a3_).ev

noncomputable def A_sp_l2Pay : Sh := (.cons (.agg (.cons (.dat (.slice (.int .i64))) (.cons (.dat (.slice (.slice (.int .i64)))) .nil))) (.cons (.dat (.slice (.int .i64))) .nil))

noncomputable def I_sp_l2Pay : List (Nat × OSh) := []

noncomputable def K_sp_l2Pay : RetK := { acts := [], res := [.tmp 4], sh := (.cons (.dat (.int .i64)) .nil), obs := [], pins := [] }

noncomputable def D_sp_l2Pay : FD where
  A := A_sp_l2Pay
  ins := I_sp_l2Pay
  lend := []
  R := Int
  F := fun x => F_sp_l2Pay x.1.1.1 x.1.1.2.1 x.1.2.1
  emb := fun r => ([.dat (.int .i64) r], [])

noncomputable def E_sp_l2Pay : Env := envOf []

noncomputable def Z_sp_l2Pay : Nat → Nat → List Nat := fun _ _ => []

noncomputable def O_sp_l2Pay : List (Nat × LD) := [(0, DL_sp_l2Pay_0)]

noncomputable def C_sp_l2Pay : Code := (f145.body).getD .skip

/-! ### 82 loop.example/g01110/spec.l2Total -/

noncomputable def T_sp_l2Total (a1_ : List (Int)) (a2_ : List (List (Int))) (a3_ : List (Int)) : Tr (Int) :=
  .c (Int) (F_sp_l2Serve a1_ a2_ a3_) fun r1_ =>
  .c (Int) (F_sp_l2Pay a1_ a2_ a3_) fun r2_ =>
  .l (IntKind.wrap .i64 (r1_ + r2_))

noncomputable def F_sp_l2Total (a1_ : List (Int)) (a2_ : List (List (Int))) (a3_ : List (Int)) : Option (Int) := (T_sp_l2Total a1_ a2_ a3_).ev

noncomputable def A_sp_l2Total : Sh := (.cons (.agg (.cons (.dat (.slice (.int .i64))) (.cons (.dat (.slice (.slice (.int .i64)))) .nil))) (.cons (.dat (.slice (.int .i64))) .nil))

noncomputable def I_sp_l2Total : List (Nat × OSh) := []

noncomputable def K_sp_l2Total : RetK := { acts := [], res := [.tmp 4], sh := (.cons (.dat (.int .i64)) .nil), obs := [], pins := [] }

noncomputable def D_sp_l2Total : FD where
  A := A_sp_l2Total
  ins := I_sp_l2Total
  lend := []
  R := Int
  F := fun x => F_sp_l2Total x.1.1.1 x.1.1.2.1 x.1.2.1
  emb := fun r => ([.dat (.int .i64) r], [])

noncomputable def E_sp_l2Total : Env := envOf [(144, D_sp_l2Serve), (145, D_sp_l2Pay)]

noncomputable def Z_sp_l2Total : Nat → Nat → List Nat := fun _ _ => []

noncomputable def O_sp_l2Total : List (Nat × LD) := []

noncomputable def C_sp_l2Total : Code := (f82.body).getD .skip

/-! ### 32 loop.example/g01110/spec.AtlasTotal -/

noncomputable def T_sp_AtlasTotal (a1_ : List (Int)) (a2_ : List (List (Int))) (a3_ : List (Int)) (a4_ : Int) : Tr ((Int) × (Bool)) :=
  .c (Bool) (F_sp_l12Good a1_ a2_ a3_ a4_) fun r1_ =>
  .t (!r1_)
    (.l ((0 : Int), false))
    (.t (((List.length a3_ : Nat) : Int) == (0 : Int))
        (.l ((0 : Int), false))
        (.c (Int) (F_sp_l2Total a1_ a2_ a3_) fun r2_ =>
          .l (r2_, true)))

noncomputable def F_sp_AtlasTotal (a1_ : List (Int)) (a2_ : List (List (Int))) (a3_ : List (Int)) (a4_ : Int) : Option ((Int) × (Bool)) := (T_sp_AtlasTotal a1_ a2_ a3_ a4_).ev

noncomputable def A_sp_AtlasTotal : Sh := (.cons (.agg (.cons (.dat (.slice (.int .i64))) (.cons (.dat (.slice (.slice (.int .i64)))) (.cons (.dat (.slice (.int .i64))) (.cons (.dat (.int .i64)) .nil))))) .nil)

noncomputable def I_sp_AtlasTotal : List (Nat × OSh) := []

noncomputable def K_sp_AtlasTotal : RetK := { acts := [], res := [.tmp 2, .tmp 3], sh := (.cons (.dat (.int .i64)) (.cons (.dat .bool) .nil)), obs := [], pins := [] }

noncomputable def D_sp_AtlasTotal : FD where
  A := A_sp_AtlasTotal
  ins := I_sp_AtlasTotal
  lend := []
  R := (Int) × (Bool)
  F := fun x => F_sp_AtlasTotal x.1.1.1 x.1.1.2.1 x.1.1.2.2.1 x.1.1.2.2.2.1
  emb := fun r => ([.dat (.int .i64) r.1, .dat .bool r.2], [])

noncomputable def E_sp_AtlasTotal : Env := envOf [(77, D_sp_l12Good), (82, D_sp_l2Total)]

noncomputable def Z_sp_AtlasTotal : Nat → Nat → List Nat := fun _ _ => []

noncomputable def O_sp_AtlasTotal : List (Nat × LD) := []

noncomputable def C_sp_AtlasTotal : Code := (f32.body).getD .skip

/-! ### 157 loop.example/g01110/spec.l1Least -/

noncomputable def T_sp_l1Least (a1_ : Int) (a2_ : Int) : Tr (Int) :=
  .t (decide (a1_ < a2_))
    (.l a1_)
    (.l a2_)

noncomputable def F_sp_l1Least (a1_ : Int) (a2_ : Int) : Option (Int) := (T_sp_l1Least a1_ a2_).ev

noncomputable def A_sp_l1Least : Sh := (.cons (.dat (.int .i64)) (.cons (.dat (.int .i64)) .nil))

noncomputable def I_sp_l1Least : List (Nat × OSh) := []

noncomputable def K_sp_l1Least : RetK := { acts := [], res := [.tmp 4], sh := (.cons (.dat (.int .i64)) .nil), obs := [], pins := [] }

noncomputable def D_sp_l1Least : FD where
  A := A_sp_l1Least
  ins := I_sp_l1Least
  lend := []
  R := Int
  F := fun x => F_sp_l1Least x.1.1 x.1.2.1
  emb := fun r => ([.dat (.int .i64) r], [])

noncomputable def E_sp_l1Least : Env := envOf []

noncomputable def Z_sp_l1Least : Nat → Nat → List Nat := fun _ _ => []

noncomputable def O_sp_l1Least : List (Nat × LD) := []

noncomputable def C_sp_l1Least : Code := (f157.body).getD .skip

/-! ### 163 loop.example/g01110/spec.l1Most -/

noncomputable def T_sp_l1Most (a1_ : Int) (a2_ : Int) : Tr (Int) :=
  .t (decide (a2_ < a1_))
    (.l a1_)
    (.l a2_)

noncomputable def F_sp_l1Most (a1_ : Int) (a2_ : Int) : Option (Int) := (T_sp_l1Most a1_ a2_).ev

noncomputable def A_sp_l1Most : Sh := (.cons (.dat (.int .i64)) (.cons (.dat (.int .i64)) .nil))

noncomputable def I_sp_l1Most : List (Nat × OSh) := []

noncomputable def K_sp_l1Most : RetK := { acts := [], res := [.tmp 4], sh := (.cons (.dat (.int .i64)) .nil), obs := [], pins := [] }

noncomputable def D_sp_l1Most : FD where
  A := A_sp_l1Most
  ins := I_sp_l1Most
  lend := []
  R := Int
  F := fun x => F_sp_l1Most x.1.1 x.1.2.1
  emb := fun r => ([.dat (.int .i64) r], [])

noncomputable def E_sp_l1Most : Env := envOf []

noncomputable def Z_sp_l1Most : Nat → Nat → List Nat := fun _ _ => []

noncomputable def O_sp_l1Most : List (Nat × LD) := []

noncomputable def C_sp_l1Most : Code := (f163.body).getD .skip

/-! ### 182 loop.example/g01110/spec.l3Claim -/

noncomputable def S_sp_l3Claim_0 (k : (List (Int)) × ((Int) × ((Int) × ((List (Int)) × (List (List (Int))))))) (v : (Int) × (Int)) : Tr (((Int) × (Int)) ⊕ (Int)) :=
  .t (decide (v.2 < ((List.length k.1 : Nat) : Int)))
    (.g (inR v.2 (List.length k.1)) <|
      .g (inR v.2 (List.length k.2.2.2.2)) <|
      .g (inR k.2.1 (List.length (List.getD k.2.2.2.2 (Int.toNat v.2) ([] : List (Int))))) <|
      .c (Int) (F_sp_l1Most (0 : Int) (IntKind.wrap .i64 ((List.getD k.1 (Int.toNat v.2) (0 : Int)) - (IntKind.wrap .i64 (k.2.2.1 * (List.getD (List.getD k.2.2.2.2 (Int.toNat v.2) ([] : List (Int))) (Int.toNat k.2.1) (0 : Int))))))) fun r8_ =>
      .l (.inl ((IntKind.wrap .i64 (v.1 + r8_)), (IntKind.wrap .i64 (v.2 + (1 : Int))))))
    (.l (.inr v.1))

noncomputable def L_sp_l3Claim_0 (k : (List (Int)) × ((Int) × ((Int) × ((List (Int)) × (List (List (Int))))))) (v : (Int) × (Int)) : Option (Int) := iter (fun v => (S_sp_l3Claim_0 k v).ev) v

noncomputable def DL_sp_l3Claim_0 : LD where
  head := { acts := [], S := { slots := [1, 2, 3, 4, 9, 10], sh := (.cons (.dat (.slice (.int .i64))) (.cons (.dat (.int .i64)) (.cons (.dat (.int .i64)) (.cons (.box 4 0) (.cons (.dat (.int .i64)) (.cons (.dat (.int .i64)) .nil)))))), obs := [(4, .cells (.cons (.dat (.slice (.int .i64))) (.cons (.dat (.slice (.slice (.int .i64)))) .nil)))] } }
  exits := [(0, { acts := [], S := { slots := [9], sh := (.cons (.dat (.int .i64)) .nil), obs := [] } })]
  rets := { acts := [], S := { slots := [], sh := .nil, obs := [] } }
  K := (List (Int)) × ((Int) × ((Int) × ((List (Int)) × (List (List (Int))))))
  V := (Int) × (Int)
  R := Int
  join := fun k v => ((k.1, (k.2.1, (k.2.2.1, ((), (v.1, (v.2, ())))))), ((k.2.2.2.1, (k.2.2.2.2, ())), ()))
  sk := fun t => (t.1.1, (t.1.2.1, (t.1.2.2.1, (t.2.1.1, t.2.1.2.1))))
  sv := fun t => (t.1.2.2.2.2.1, t.1.2.2.2.2.2.1)
  step := S_sp_l3Claim_0
  leaf := fun _ r => .l (.exit 0 (mkSt ({ slots := [9], sh := (.cons (.dat (.int .i64)) .nil), obs := [] }) ((r, ()), ())))

noncomputable def T_sp_l3Claim (a1_ : List (Int)) (a2_ : List (List (Int))) (a3_ : List (Int)) (a4_ : Int) (a5_ : Int) : Tr (Int) :=
  .c (Int) (L_sp_l3Claim_0 (a3_, (a4_, (a5_, (a1_, a2_)))) ((0 : Int), (0 : Int))) fun r10_ =>
  .l r10_

noncomputable def F_sp_l3Claim (a1_ : List (Int)) (a2_ : List (List (Int))) (a3_ : List (Int)) (a4_ : Int) (a5_ : Int) : Option (Int) := (T_sp_l3Claim a1_ a2_ a3_ a4_ a5_).ev

noncomputable def A_sp_l3Claim : Sh := (.cons (.agg (.cons (.dat (.slice (.int .i64))) (.cons (.dat (.slice (.slice (.int .i64)))) .nil))) (.cons (.dat (.slice (.int .i64))) (.cons (.dat (.int .i64)) (.cons (.dat (.int .i64)) .nil))))

noncomputable def I_sp_l3Claim : List (Nat × OSh) := []

noncomputable def K_sp_l3Claim : RetK := { acts := [], res := [.tmp 8], sh := (.cons (.dat (.int .i64)) .nil), obs := [], pins := [] }

noncomputable def D_sp_l3Claim : FD where
  A := A_sp_l3Claim
  ins := I_sp_l3Claim
  lend := []
  R := Int
  F := fun x => F_sp_l3Claim x.1.1.1 x.1.1.2.1 x.1.2.1 x.1.2.2.1 x.1.2.2.2.1
  emb := fun r => ([.dat (.int .i64) r], [])

noncomputable def E_sp_l3Claim : Env := envOf [(163, D_sp_l1Most)]

noncomputable def Z_sp_l3Claim : Nat → Nat → List Nat := fun _ _ => []

noncomputable def O_sp_l3Claim : List (Nat × LD) := [(0, DL_sp_l3Claim_0)]

noncomputable def C_sp_l3Claim : Code := (f182.body).getD .skip

/-! ### 158 loop.example/g01110/spec.l3Next -/

noncomputable def S_sp_l3Next_0 (k : (List (Int)) × ((Int) × ((Int) × ((List (Int)) × (List (List (Int))))))) (v : (Int) × (Int)) : Tr (((Int) × (Int)) ⊕ (Int)) :=
  .t (decide (v.2 < ((List.length k.2.2.2.1 : Nat) : Int)))
    (.g (inR k.2.1 (List.length k.2.2.2.2)) <|
      .g (inR v.2 (List.length (List.getD k.2.2.2.2 (Int.toNat k.2.1) ([] : List (Int))))) <|
      .t (decide ((List.getD (List.getD k.2.2.2.2 (Int.toNat k.2.1) ([] : List (Int))) (Int.toNat v.2) (0 : Int)) ≤ k.2.2.1))
        (.g (inR v.2 (List.length k.2.2.2.1)) <|
          .c (Int) (F_sp_l3Claim k.2.2.2.1 k.2.2.2.2 k.1 v.2 (1 : Int)) fun r8_ =>
          .t (decide (v.1 < (0 : Int)))
            (.l (.inl ((IntKind.wrap .i64 ((List.getD k.2.2.2.1 (Int.toNat v.2) (0 : Int)) - r8_)), (IntKind.wrap .i64 (v.2 + (1 : Int))))))
            (.t (decide ((IntKind.wrap .i64 ((List.getD k.2.2.2.1 (Int.toNat v.2) (0 : Int)) - r8_)) < v.1))
                (.l (.inl ((IntKind.wrap .i64 ((List.getD k.2.2.2.1 (Int.toNat v.2) (0 : Int)) - r8_)), (IntKind.wrap .i64 (v.2 + (1 : Int))))))
                (.l (.inl (v.1, (IntKind.wrap .i64 (v.2 + (1 : Int))))))))
        (.t (decide (v.1 < (0 : Int)))
            (.l (.inl ((IntKind.wrap .i64 ((List.getD (List.getD k.2.2.2.2 (Int.toNat k.2.1) ([] : List (Int))) (Int.toNat v.2) (0 : Int)) - k.2.2.1)), (IntKind.wrap .i64 (v.2 + (1 : Int))))))
            (.t (decide ((IntKind.wrap .i64 ((List.getD (List.getD k.2.2.2.2 (Int.toNat k.2.1) ([] : List (Int))) (Int.toNat v.2) (0 : Int)) - k.2.2.1)) < v.1))
                (.l (.inl ((IntKind.wrap .i64 ((List.getD (List.getD k.2.2.2.2 (Int.toNat k.2.1) ([] : List (Int))) (Int.toNat v.2) (0 : Int)) - k.2.2.1)), (IntKind.wrap .i64 (v.2 + (1 : Int))))))
                (.l (.inl (v.1, (IntKind.wrap .i64 (v.2 + (1 : Int)))))))))
    (.l (.inr v.1))

noncomputable def L_sp_l3Next_0 (k : (List (Int)) × ((Int) × ((Int) × ((List (Int)) × (List (List (Int))))))) (v : (Int) × (Int)) : Option (Int) := iter (fun v => (S_sp_l3Next_0 k v).ev) v

noncomputable def DL_sp_l3Next_0 : LD where
  head := { acts := [], S := { slots := [1, 2, 3, 7, 8, 9], sh := (.cons (.dat (.slice (.int .i64))) (.cons (.dat (.int .i64)) (.cons (.box 3 0) (.cons (.dat (.int .i64)) (.cons (.dat (.int .i64)) (.cons (.dat (.int .i64)) .nil)))))), obs := [(3, .cells (.cons (.dat (.slice (.int .i64))) (.cons (.dat (.slice (.slice (.int .i64)))) .nil)))] } }
  exits := [(0, { acts := [], S := { slots := [8], sh := (.cons (.dat (.int .i64)) .nil), obs := [] } })]
  rets := { acts := [], S := { slots := [], sh := .nil, obs := [] } }
  K := (List (Int)) × ((Int) × ((Int) × ((List (Int)) × (List (List (Int))))))
  V := (Int) × (Int)
  R := Int
  join := fun k v => ((k.1, (k.2.1, ((), (k.2.2.1, (v.1, (v.2, ())))))), ((k.2.2.2.1, (k.2.2.2.2, ())), ()))
  sk := fun t => (t.1.1, (t.1.2.1, (t.1.2.2.2.1, (t.2.1.1, t.2.1.2.1))))
  sv := fun t => (t.1.2.2.2.2.1, t.1.2.2.2.2.2.1)
  step := S_sp_l3Next_0
  leaf := fun _ r => .l (.exit 0 (mkSt ({ slots := [8], sh := (.cons (.dat (.int .i64)) .nil), obs := [] }) ((r, ()), ())))

noncomputable def T_sp_l3Next (a1_ : List (Int)) (a2_ : List (List (Int))) (a3_ : List (Int)) (a4_ : Int) : Tr (Int) :=
  .g (inR a4_ (List.length a3_)) <|
  .c (Int) (L_sp_l3Next_0 (a3_, (a4_, ((List.getD a3_ (Int.toNat a4_) (0 : Int)), (a1_, a2_)))) ((-1 : Int), (0 : Int))) fun r10_ =>
  .l r10_

noncomputable def F_sp_l3Next (a1_ : List (Int)) (a2_ : List (List (Int))) (a3_ : List (Int)) (a4_ : Int) : Option (Int) := (T_sp_l3Next a1_ a2_ a3_ a4_).ev

noncomputable def A_sp_l3Next : Sh := (.cons (.agg (.cons (.dat (.slice (.int .i64))) (.cons (.dat (.slice (.slice (.int .i64)))) .nil))) (.cons (.dat (.slice (.int .i64))) (.cons (.dat (.int .i64)) .nil)))

noncomputable def I_sp_l3Next : List (Nat × OSh) := []

noncomputable def K_sp_l3Next : RetK := { acts := [], res := [.tmp 6], sh := (.cons (.dat (.int .i64)) .nil), obs := [], pins := [] }

noncomputable def D_sp_l3Next : FD where
  A := A_sp_l3Next
  ins := I_sp_l3Next
  lend := []
  R := Int
  F := fun x => F_sp_l3Next x.1.1.1 x.1.1.2.1 x.1.2.1 x.1.2.2.1
  emb := fun r => ([.dat (.int .i64) r], [])

noncomputable def E_sp_l3Next : Env := envOf [(182, D_sp_l3Claim)]

noncomputable def Z_sp_l3Next : Nat → Nat → List Nat := fun _ _ => []

noncomputable def O_sp_l3Next : List (Nat × LD) := [(0, DL_sp_l3Next_0)]

noncomputable def C_sp_l3Next : Code := (f158.body).getD .skip

/-! ### 106 loop.example/g01110/spec.l3Ascent -/

noncomputable def S_sp_l3Ascent_2 (k : (Int) × ((List (Int)) × ((List (List (Int))) × (List (Int))))) (v : (Int) × (Int)) : Tr (((Int) × (Int)) ⊕ (Int)) :=
  .t (decide (v.2 < ((List.length k.2.1 : Nat) : Int)))
    (.g (inR k.1 (List.length k.2.2.1)) <|
      .g (inR v.2 (List.length (List.getD k.2.2.1 (Int.toNat k.1) ([] : List (Int))))) <|
      .c (Int) (F_sp_l1Least v.1 (List.getD (List.getD k.2.2.1 (Int.toNat k.1) ([] : List (Int))) (Int.toNat v.2) (0 : Int))) fun r11_ =>
      .l (.inl (r11_, (IntKind.wrap .i64 (v.2 + (1 : Int))))))
    (.l (.inr v.1))

noncomputable def L_sp_l3Ascent_2 (k : (Int) × ((List (Int)) × ((List (List (Int))) × (List (Int))))) (v : (Int) × (Int)) : Option (Int) := iter (fun v => (S_sp_l3Ascent_2 k v).ev) v

noncomputable def DL_sp_l3Ascent_2 : LD where
  head := { acts := [], S := { slots := [1, 3, 4, 5, 6], sh := (.cons (.box 1 0) (.cons (.arr 10) (.cons (.dat (.int .i64)) (.cons (.dat (.int .i64)) (.cons (.dat (.int .i64)) .nil))))), obs := [(1, .cells (.cons (.dat (.slice (.int .i64))) (.cons (.dat (.slice (.slice (.int .i64)))) .nil))), (10, .arr 3 (.int .i64))] } }
  exits := [(2, { acts := [], S := { slots := [1, 3, 4, 5], sh := (.cons (.box 1 0) (.cons (.arr 10) (.cons (.dat (.int .i64)) (.cons (.dat (.int .i64)) .nil)))), obs := [(1, .cells (.cons (.dat (.slice (.int .i64))) (.cons (.dat (.slice (.slice (.int .i64)))) .nil))), (10, .arr 3 (.int .i64))] } })]
  rets := { acts := [], S := { slots := [], sh := .nil, obs := [] } }
  K := (Int) × ((List (Int)) × ((List (List (Int))) × (List (Int))))
  V := (Int) × (Int)
  R := Int
  join := fun k v => (((), ((), (k.1, (v.1, (v.2, ()))))), ((k.2.1, (k.2.2.1, ())), (k.2.2.2, ())))
  sk := fun t => (t.1.2.2.1, (t.2.1.1, (t.2.1.2.1, t.2.2.1)))
  sv := fun t => (t.1.2.2.2.1, t.1.2.2.2.2.1)
  step := S_sp_l3Ascent_2
  leaf := fun k r => .l (.exit 2 (mkSt ({ slots := [1, 3, 4, 5], sh := (.cons (.box 1 0) (.cons (.arr 10) (.cons (.dat (.int .i64)) (.cons (.dat (.int .i64)) .nil)))), obs := [(1, .cells (.cons (.dat (.slice (.int .i64))) (.cons (.dat (.slice (.slice (.int .i64)))) .nil))), (10, .arr 3 (.int .i64))] }) (((), ((), (k.1, (r, ())))), ((k.2.1, (k.2.2.1, ())), (k.2.2.2, ())))))

noncomputable def S_sp_l3Ascent_0 (k : (List (Int)) × (List (List (Int)))) (v : (Int) × (List (Int))) : Tr (((Int) × (List (Int))) ⊕ (List (Int))) :=
  .t (decide (v.1 < ((List.length k.2 : Nat) : Int)))
    (.g (inR v.1 (List.length k.2)) <|
      .g (inR (0 : Int) (List.length (List.getD k.2 (Int.toNat v.1) ([] : List (Int))))) <|
      .c (Int) (L_sp_l3Ascent_2 (v.1, (k.1, (k.2, v.2))) ((List.getD (List.getD k.2 (Int.toNat v.1) ([] : List (Int))) (Int.toNat (0 : Int)) (0 : Int)), (0 : Int))) fun r17_ =>
      .g (decide ((List.length v.2 + List.length ([r17_] : List (Int))) * 8 ≤ 140737488355328)) <|
      .l (.inl ((IntKind.wrap .i64 (v.1 + (1 : Int))), (v.2 ++ ([r17_] : List (Int))))))
    (.l (.inr v.2))

noncomputable def L_sp_l3Ascent_0 (k : (List (Int)) × (List (List (Int)))) (v : (Int) × (List (Int))) : Option (List (Int)) := iter (fun v => (S_sp_l3Ascent_0 k v).ev) v

noncomputable def DL_sp_l3Ascent_0 : LD where
  head := { acts := [], S := { slots := [1, 3, 4], sh := (.cons (.box 1 0) (.cons (.arr 10) (.cons (.dat (.int .i64)) .nil))), obs := [(1, .cells (.cons (.dat (.slice (.int .i64))) (.cons (.dat (.slice (.slice (.int .i64)))) .nil))), (10, .arr 3 (.int .i64))] } }
  exits := [(0, { acts := [], S := { slots := [1, 3], sh := (.cons (.box 1 0) (.cons (.arr 10) .nil)), obs := [(1, .cells (.cons (.dat (.slice (.int .i64))) (.cons (.dat (.slice (.slice (.int .i64)))) .nil))), (10, .arr 3 (.int .i64))] } })]
  rets := { acts := [], S := { slots := [], sh := .nil, obs := [] } }
  K := (List (Int)) × (List (List (Int)))
  V := (Int) × (List (Int))
  R := List (Int)
  join := fun k v => (((), ((), (v.1, ()))), ((k.1, (k.2, ())), (v.2, ())))
  sk := fun t => (t.2.1.1, t.2.1.2.1)
  sv := fun t => (t.1.2.2.1, t.2.2.1)
  step := S_sp_l3Ascent_0
  leaf := fun k r => .l (.exit 0 (mkSt ({ slots := [1, 3], sh := (.cons (.box 1 0) (.cons (.arr 10) .nil)), obs := [(1, .cells (.cons (.dat (.slice (.int .i64))) (.cons (.dat (.slice (.slice (.int .i64)))) .nil))), (10, .arr 3 (.int .i64))] }) (((), ((), ())), ((k.1, (k.2, ())), (r, ())))))

noncomputable def S_sp_l3Ascent_6 (k : (List (Int)) × (List (List (Int)))) (v : (Bool) × ((Int) × (List (Int)))) : Tr (((Bool) × ((Int) × (List (Int)))) ⊕ ((Bool) × (List (Int)))) :=
  .t (decide (v.2.1 < ((List.length v.2.2 : Nat) : Int)))
    (.c (Int) (F_sp_l3Next k.1 k.2 v.2.2 v.2.1) fun r31_ =>
      .t (decide ((0 : Int) < r31_))
        (.g (inR v.2.1 (List.length v.2.2)) <|
          .g (decide ((Int.toNat v.2.1) < List.length v.2.2)) <|
          .g (inR v.2.1 (List.length v.2.2)) <|
          .g (decide ((Int.toNat v.2.1) < List.length v.2.2)) <|
          .l (.inl (true, ((IntKind.wrap .i64 (v.2.1 + (1 : Int))), (List.set v.2.2 (Int.toNat v.2.1) (IntKind.wrap .i64 ((List.getD v.2.2 (Int.toNat v.2.1) (0 : Int)) + r31_)))))))
        (.l (.inl (v.1, ((IntKind.wrap .i64 (v.2.1 + (1 : Int))), v.2.2)))))
    (.l (.inr (v.1, v.2.2)))

noncomputable def L_sp_l3Ascent_6 (k : (List (Int)) × (List (List (Int)))) (v : (Bool) × ((Int) × (List (Int)))) : Option ((Bool) × (List (Int))) := iter (fun v => (S_sp_l3Ascent_6 k v).ev) v

noncomputable def DL_sp_l3Ascent_6 : LD where
  head := { acts := [], S := { slots := [1, 3, 7, 8], sh := (.cons (.box 1 0) (.cons (.arr 10) (.cons (.dat .bool) (.cons (.dat (.int .i64)) .nil)))), obs := [(1, .cells (.cons (.dat (.slice (.int .i64))) (.cons (.dat (.slice (.slice (.int .i64)))) .nil))), (10, .arr 3 (.int .i64))] } }
  exits := [(6, { acts := [], S := { slots := [1, 3, 7], sh := (.cons (.box 1 0) (.cons (.arr 10) (.cons (.dat .bool) .nil))), obs := [(1, .cells (.cons (.dat (.slice (.int .i64))) (.cons (.dat (.slice (.slice (.int .i64)))) .nil))), (10, .arr 3 (.int .i64))] } })]
  rets := { acts := [], S := { slots := [], sh := .nil, obs := [] } }
  K := (List (Int)) × (List (List (Int)))
  V := (Bool) × ((Int) × (List (Int)))
  R := (Bool) × (List (Int))
  join := fun k v => (((), ((), (v.1, (v.2.1, ())))), ((k.1, (k.2, ())), (v.2.2, ())))
  sk := fun t => (t.2.1.1, t.2.1.2.1)
  sv := fun t => (t.1.2.2.1, (t.1.2.2.2.1, t.2.2.1))
  step := S_sp_l3Ascent_6
  leaf := fun k r => .l (.exit 6 (mkSt ({ slots := [1, 3, 7], sh := (.cons (.box 1 0) (.cons (.arr 10) (.cons (.dat .bool) .nil))), obs := [(1, .cells (.cons (.dat (.slice (.int .i64))) (.cons (.dat (.slice (.slice (.int .i64)))) .nil))), (10, .arr 3 (.int .i64))] }) (((), ((), (r.1, ()))), ((k.1, (k.2, ())), (r.2, ())))))

noncomputable def S_sp_l3Ascent_4 (k : (List (Int)) × (List (List (Int)))) (v : (Bool) × (List (Int))) : Tr (((Bool) × (List (Int))) ⊕ (List (Int))) :=
  .t v.1
    (.c ((Bool) × (List (Int))) (L_sp_l3Ascent_6 (k.1, k.2) (false, ((0 : Int), v.2))) fun r36_ =>
      .l (.inl (r36_.1, r36_.2)))
    (.l (.inr v.2))

noncomputable def L_sp_l3Ascent_4 (k : (List (Int)) × (List (List (Int)))) (v : (Bool) × (List (Int))) : Option (List (Int)) := iter (fun v => (S_sp_l3Ascent_4 k v).ev) v

noncomputable def DL_sp_l3Ascent_4 : LD where
  head := { acts := [], S := { slots := [1, 3, 7], sh := (.cons (.box 1 0) (.cons (.arr 10) (.cons (.dat .bool) .nil))), obs := [(1, .cells (.cons (.dat (.slice (.int .i64))) (.cons (.dat (.slice (.slice (.int .i64)))) .nil))), (10, .arr 3 (.int .i64))] } }
  exits := [(4, { acts := [], S := { slots := [3], sh := (.cons (.arr 10) .nil), obs := [(10, .arr 3 (.int .i64))] } })]
  rets := { acts := [], S := { slots := [], sh := .nil, obs := [] } }
  K := (List (Int)) × (List (List (Int)))
  V := (Bool) × (List (Int))
  R := List (Int)
  join := fun k v => (((), ((), (v.1, ()))), ((k.1, (k.2, ())), (v.2, ())))
  sk := fun t => (t.2.1.1, t.2.1.2.1)
  sv := fun t => (t.1.2.2.1, t.2.2.1)
  step := S_sp_l3Ascent_4
  leaf := fun _ r => .l (.exit 4 (mkSt ({ slots := [3], sh := (.cons (.arr 10) .nil), obs := [(10, .arr 3 (.int .i64))] }) (((), ()), (r, ()))))

noncomputable def T_sp_l3Ascent (a1_ : List (Int)) (a2_ : List (List (Int))) : Tr (List (Int)) :=
  .c (List (Int)) (L_sp_l3Ascent_0 (a1_, a2_) ((0 : Int), ([] : List (Int)))) fun r21_ =>
  .c (List (Int)) (L_sp_l3Ascent_4 (a1_, a2_) (true, r21_)) fun r38_ =>
  .l r38_

noncomputable def F_sp_l3Ascent (a1_ : List (Int)) (a2_ : List (List (Int))) : Option (List (Int)) := (T_sp_l3Ascent a1_ a2_).ev

noncomputable def A_sp_l3Ascent : Sh := (.cons (.agg (.cons (.dat (.slice (.int .i64))) (.cons (.dat (.slice (.slice (.int .i64)))) .nil))) .nil)

noncomputable def I_sp_l3Ascent : List (Nat × OSh) := []

noncomputable def K_sp_l3Ascent : RetK := { acts := [.ren 10 0], res := [.tmp 2], sh := (.cons (.arr 0) .nil), obs := [(0, .arr 3 (.int .i64))], pins := [] }

noncomputable def D_sp_l3Ascent : FD where
  A := A_sp_l3Ascent
  ins := I_sp_l3Ascent
  lend := []
  R := List (Int)
  F := fun x => F_sp_l3Ascent x.1.1.1 x.1.1.2.1
  emb := fun r => ([.arr 0], [(0, .arr 3 (.int .i64) r)])

noncomputable def E_sp_l3Ascent : Env := envOf [(157, D_sp_l1Least), (158, D_sp_l3Next)]

noncomputable def Z_sp_l3Ascent : Nat → Nat → List Nat := fun _ _ => []

noncomputable def O_sp_l3Ascent : List (Nat × LD) := [(2, DL_sp_l3Ascent_2), (0, DL_sp_l3Ascent_0), (6, DL_sp_l3Ascent_6), (4, DL_sp_l3Ascent_4)]

noncomputable def C_sp_l3Ascent : Code := (f106.body).getD .skip

/-! ### 105 loop.example/g01110/spec.l3Sum -/

noncomputable def S_sp_l3Sum_0 (k : List (Int)) (v : (Int) × (Int)) : Tr (((Int) × (Int)) ⊕ (Int)) :=
  .t (decide (v.2 < ((List.length k : Nat) : Int)))
    (.g (inR v.2 (List.length k)) <|
      .l (.inl ((IntKind.wrap .i64 (v.1 + (List.getD k (Int.toNat v.2) (0 : Int)))), (IntKind.wrap .i64 (v.2 + (1 : Int))))))
    (.l (.inr v.1))

noncomputable def L_sp_l3Sum_0 (k : List (Int)) (v : (Int) × (Int)) : Option (Int) := iter (fun v => (S_sp_l3Sum_0 k v).ev) v

noncomputable def DL_sp_l3Sum_0 : LD where
  head := { acts := [], S := { slots := [0, 3, 4], sh := (.cons (.dat (.slice (.int .i64))) (.cons (.dat (.int .i64)) (.cons (.dat (.int .i64)) .nil))), obs := [] } }
  exits := [(0, { acts := [], S := { slots := [3], sh := (.cons (.dat (.int .i64)) .nil), obs := [] } })]
  rets := { acts := [], S := { slots := [], sh := .nil, obs := [] } }
  K := List (Int)
  V := (Int) × (Int)
  R := Int
  join := fun k v => ((k, (v.1, (v.2, ()))), ())
  sk := fun t => t.1.1
  sv := fun t => (t.1.2.1, t.1.2.2.1)
  step := S_sp_l3Sum_0
  leaf := fun _ r => .l (.exit 0 (mkSt ({ slots := [3], sh := (.cons (.dat (.int .i64)) .nil), obs := [] }) ((r, ()), ())))

noncomputable def T_sp_l3Sum (a1_ : List (Int)) : Tr (Int) :=
  .c (Int) (L_sp_l3Sum_0 a1_ ((0 : Int), (0 : Int))) fun r5_ =>
  .l r5_

noncomputable def F_sp_l3Sum (a1_ : List (Int)) : Option (Int) := (T_sp_l3Sum a1_).ev

noncomputable def A_sp_l3Sum : Sh := (.cons (.dat (.slice (.int .i64))) .nil)

noncomputable def I_sp_l3Sum : List (Nat × OSh) := []

noncomputable def K_sp_l3Sum : RetK := { acts := [], res := [.tmp 2], sh := (.cons (.dat (.int .i64)) .nil), obs := [], pins := [] }

noncomputable def D_sp_l3Sum : FD where
  A := A_sp_l3Sum
  ins := I_sp_l3Sum
  lend := []
  R := Int
  F := fun x => F_sp_l3Sum x.1.1
  emb := fun r => ([.dat (.int .i64) r], [])

noncomputable def E_sp_l3Sum : Env := envOf []

noncomputable def Z_sp_l3Sum : Nat → Nat → List Nat := fun _ _ => []

noncomputable def O_sp_l3Sum : List (Nat × LD) := [(0, DL_sp_l3Sum_0)]

noncomputable def C_sp_l3Sum : Code := (f105.body).getD .skip

/-! ### 48 loop.example/g01110/spec.AtlasGap -/

noncomputable def T_sp_AtlasGap (a1_ : List (Int)) (a2_ : List (List (Int))) (a3_ : List (Int)) (a4_ : Int) : Tr ((Int) × (Bool)) :=
  .c ((Int) × (Bool)) (F_sp_AtlasTotal a1_ a2_ a3_ a4_) fun r1_ =>
  .t (!r1_.2)
    (.l ((0 : Int), false))
    (.c (List (Int)) (F_sp_l3Ascent a1_ a2_) fun r2_ =>
      .c (Int) (F_sp_l3Sum r2_) fun r3_ =>
      .l ((IntKind.wrap .i64 (r1_.1 - r3_)), true))

noncomputable def F_sp_AtlasGap (a1_ : List (Int)) (a2_ : List (List (Int))) (a3_ : List (Int)) (a4_ : Int) : Option ((Int) × (Bool)) := (T_sp_AtlasGap a1_ a2_ a3_ a4_).ev

noncomputable def A_sp_AtlasGap : Sh := (.cons (.agg (.cons (.dat (.slice (.int .i64))) (.cons (.dat (.slice (.slice (.int .i64)))) (.cons (.dat (.slice (.int .i64))) (.cons (.dat (.int .i64)) .nil))))) .nil)

noncomputable def I_sp_AtlasGap : List (Nat × OSh) := []

noncomputable def K_sp_AtlasGap : RetK := { acts := [], res := [.tmp 2, .tmp 3], sh := (.cons (.dat (.int .i64)) (.cons (.dat .bool) .nil)), obs := [], pins := [] }

noncomputable def D_sp_AtlasGap : FD where
  A := A_sp_AtlasGap
  ins := I_sp_AtlasGap
  lend := []
  R := (Int) × (Bool)
  F := fun x => F_sp_AtlasGap x.1.1.1 x.1.1.2.1 x.1.1.2.2.1 x.1.1.2.2.2.1
  emb := fun r => ([.dat (.int .i64) r.1, .dat .bool r.2], [])

noncomputable def E_sp_AtlasGap : Env := envOf [(32, D_sp_AtlasTotal), (106, D_sp_l3Ascent), (105, D_sp_l3Sum)]

noncomputable def Z_sp_AtlasGap : Nat → Nat → List Nat := fun _ _ => []

noncomputable def O_sp_AtlasGap : List (Nat × LD) := []

noncomputable def C_sp_AtlasGap : Code := (f48.body).getD .skip

/-! ### 73 loop.example/g01110/impl.between -/

noncomputable def T_im_between (a1_ : Int) (a2_ : Int) (a3_ : Int) : Tr (Bool) :=
  .t (decide (a2_ ≤ a1_))
    (.l (decide (a1_ ≤ a3_)))
    (.l false)

noncomputable def F_im_between (a1_ : Int) (a2_ : Int) (a3_ : Int) : Option (Bool) := (T_im_between a1_ a2_ a3_).ev

noncomputable def A_im_between : Sh := (.cons (.dat (.int .i64)) (.cons (.dat (.int .i64)) (.cons (.dat (.int .i64)) .nil)))

noncomputable def I_im_between : List (Nat × OSh) := []

noncomputable def K_im_between : RetK := { acts := [], res := [.tmp 6], sh := (.cons (.dat .bool) .nil), obs := [], pins := [] }

noncomputable def D_im_between : FD where
  A := A_im_between
  ins := I_im_between
  lend := []
  R := Bool
  F := fun x => F_im_between x.1.1 x.1.2.1 x.1.2.2.1
  emb := fun r => ([.dat .bool r], [])

noncomputable def E_im_between : Env := envOf []

noncomputable def Z_im_between : Nat → Nat → List Nat := fun _ _ => []

noncomputable def O_im_between : List (Nat × LD) := []

noncomputable def C_im_between : Code := (f73.body).getD .skip

/-! ### 170 slices.IndexFunc[[]int,int] -/

noncomputable def S_slices_IndexFunc_Sint_int_0 (k : (List (Int)) × (((HL [(.int .i64)] → Option (Bool))) × (Int))) (v : Int) : Tr ((Int) ⊕ ((Unit) ⊕ (Int))) :=
  .t (decide (v < k.2.2))
    (.g (inR v (List.length k.1)) <|
      .c (Bool) (k.2.1 ((List.getD k.1 (Int.toNat v) (0 : Int)), ())) fun r5_ =>
      .t r5_
        (.l (.inr (.inr v)))
        (.l (.inl (IntKind.wrap .i64 (v + (1 : Int))))))
    (.l (.inr (.inl ())))

noncomputable def L_slices_IndexFunc_Sint_int_0 (k : (List (Int)) × (((HL [(.int .i64)] → Option (Bool))) × (Int))) (v : Int) : Option ((Unit) ⊕ (Int)) := iter (fun v => (S_slices_IndexFunc_Sint_int_0 k v).ev) v

noncomputable def DL_slices_IndexFunc_Sint_int_0 : LD where
  head := { acts := [], S := { slots := [0, 1, 7, 8], sh := (.cons (.dat (.slice (.int .i64))) (.cons (.clo [(.int .i64)] .bool) (.cons (.dat (.int .i64)) (.cons (.dat (.int .i64)) .nil)))), obs := [] } }
  exits := [(0, { acts := [], S := { slots := [], sh := .nil, obs := [] } })]
  rets := { acts := [], S := { slots := [4], sh := (.cons (.dat (.int .i64)) .nil), obs := [] } }
  K := (List (Int)) × (((HL [(.int .i64)] → Option (Bool))) × (Int))
  V := Int
  R := (Unit) ⊕ (Int)
  join := fun k v => ((k.1, (k.2.1, (k.2.2, (v, ())))), ())
  sk := fun t => (t.1.1, (t.1.2.1, t.1.2.2.1))
  sv := fun t => t.1.2.2.2.1
  step := S_slices_IndexFunc_Sint_int_0
  leaf := fun _ r => .s (Unit) (Int) r (fun _ => .l (.exit 0 (mkSt ({ slots := [], sh := .nil, obs := [] }) ((), ())))) (fun b => .l (.ret (mkSt ({ slots := [4], sh := (.cons (.dat (.int .i64)) .nil), obs := [] }) ((b, ()), ()))))

noncomputable def T_slices_IndexFunc_Sint_int (a1_ : List (Int)) (a2_ : (HL [(.int .i64)] → Option (Bool))) : Tr (Int) :=
  .c ((Unit) ⊕ (Int)) (L_slices_IndexFunc_Sint_int_0 (a1_, (a2_, ((List.length a1_ : Nat) : Int))) (0 : Int)) fun r7_ =>
  .s (Unit) (Int) r7_
    (fun _ => .l (-1 : Int))
    (fun r9_ => .l r9_)

noncomputable def F_slices_IndexFunc_Sint_int (a1_ : List (Int)) (a2_ : (HL [(.int .i64)] → Option (Bool))) : Option (Int) := (T_slices_IndexFunc_Sint_int a1_ a2_).ev

noncomputable def A_slices_IndexFunc_Sint_int : Sh := (.cons (.dat (.slice (.int .i64))) (.cons (.clo [(.int .i64)] .bool) .nil))

noncomputable def I_slices_IndexFunc_Sint_int : List (Nat × OSh) := []

noncomputable def K_slices_IndexFunc_Sint_int : RetK := { acts := [], res := [.tmp 4], sh := (.cons (.dat (.int .i64)) .nil), obs := [], pins := [] }

noncomputable def D_slices_IndexFunc_Sint_int : FD where
  A := A_slices_IndexFunc_Sint_int
  ins := I_slices_IndexFunc_Sint_int
  lend := []
  R := Int
  F := fun x => F_slices_IndexFunc_Sint_int x.1.1 x.1.2.1
  emb := fun r => ([.dat (.int .i64) r], [])

noncomputable def E_slices_IndexFunc_Sint_int : Env := envOf []

noncomputable def Z_slices_IndexFunc_Sint_int : Nat → Nat → List Nat := fun _ _ => []

noncomputable def O_slices_IndexFunc_Sint_int : List (Nat × LD) := [(0, DL_slices_IndexFunc_Sint_int_0)]

noncomputable def C_slices_IndexFunc_Sint_int : Code := (f170.body).getD .skip

/-! ### 125 slices.ContainsFunc[[]int,int] -/

noncomputable def T_slices_ContainsFunc_Sint_int (a1_ : List (Int)) (a2_ : (HL [(.int .i64)] → Option (Bool))) : Tr (Bool) :=
  .c (Int) (F_slices_IndexFunc_Sint_int a1_ a2_) fun r1_ =>
  .l (decide ((0 : Int) ≤ r1_))

noncomputable def F_slices_ContainsFunc_Sint_int (a1_ : List (Int)) (a2_ : (HL [(.int .i64)] → Option (Bool))) : Option (Bool) := (T_slices_ContainsFunc_Sint_int a1_ a2_).ev

noncomputable def A_slices_ContainsFunc_Sint_int : Sh := (.cons (.dat (.slice (.int .i64))) (.cons (.clo [(.int .i64)] .bool) .nil))

noncomputable def I_slices_ContainsFunc_Sint_int : List (Nat × OSh) := []

noncomputable def K_slices_ContainsFunc_Sint_int : RetK := { acts := [], res := [.tmp 4], sh := (.cons (.dat .bool) .nil), obs := [], pins := [] }

noncomputable def D_slices_ContainsFunc_Sint_int : FD where
  A := A_slices_ContainsFunc_Sint_int
  ins := I_slices_ContainsFunc_Sint_int
  lend := []
  R := Bool
  F := fun x => F_slices_ContainsFunc_Sint_int x.1.1 x.1.2.1
  emb := fun r => ([.dat .bool r], [])

noncomputable def E_slices_ContainsFunc_Sint_int : Env := envOf [(170, D_slices_IndexFunc_Sint_int)]

noncomputable def Z_slices_ContainsFunc_Sint_int : Nat → Nat → List Nat := fun _ _ => []

noncomputable def O_slices_ContainsFunc_Sint_int : List (Nat × LD) := []

noncomputable def C_slices_ContainsFunc_Sint_int : Code := (f125.body).getD .skip

/-! ### 177 loop.example/g01110/impl.areBetween 1 -/

noncomputable def T_im_areBetween_1 (a1_ : Int) (a2_ : Int) (a3_ : Int) : Tr (Bool) :=
  .c (Bool) (F_im_between a1_ a2_ a3_) fun r1_ =>
  .l (!r1_)

noncomputable def F_im_areBetween_1 (a1_ : Int) (a2_ : Int) (a3_ : Int) : Option (Bool) := (T_im_areBetween_1 a1_ a2_ a3_).ev

noncomputable def A_im_areBetween_1 : Sh := (.cons (.dat (.int .i64)) (.cons (.ptr (.cons (.dat (.int .i64)) .nil)) (.cons (.ptr (.cons (.dat (.int .i64)) .nil)) .nil)))

noncomputable def I_im_areBetween_1 : List (Nat × OSh) := []

noncomputable def K_im_areBetween_1 : RetK := { acts := [], res := [.tmp 4], sh := (.cons (.dat .bool) .nil), obs := [], pins := [] }

noncomputable def D_im_areBetween_1 : FD where
  A := A_im_areBetween_1
  ins := I_im_areBetween_1
  lend := []
  R := Bool
  F := fun x => F_im_areBetween_1 x.1.1 x.1.2.1.1 x.1.2.2.1.1
  emb := fun r => ([.dat .bool r], [])

noncomputable def E_im_areBetween_1 : Env := envOf [(73, D_im_between)]

noncomputable def Z_im_areBetween_1 : Nat → Nat → List Nat := fun _ _ => []

noncomputable def O_im_areBetween_1 : List (Nat × LD) := []

noncomputable def C_im_areBetween_1 : Code := (f177.body).getD .skip

/-! ### 136 loop.example/g01110/impl.areBetween -/

noncomputable def T_im_areBetween (a1_ : List (Int)) (a2_ : Int) (a3_ : Int) : Tr (Bool) :=
  .c (Bool) (F_slices_ContainsFunc_Sint_int a1_ (fun h1_ => Option.bind (F_im_areBetween_1 h1_.1 a2_ a3_) fun y2_ => some y2_)) fun r3_ =>
  .l (!r3_)

noncomputable def F_im_areBetween (a1_ : List (Int)) (a2_ : Int) (a3_ : Int) : Option (Bool) := (T_im_areBetween a1_ a2_ a3_).ev

noncomputable def A_im_areBetween : Sh := (.cons (.dat (.slice (.int .i64))) (.cons (.dat (.int .i64)) (.cons (.dat (.int .i64)) .nil)))

noncomputable def I_im_areBetween : List (Nat × OSh) := []

noncomputable def K_im_areBetween : RetK := { acts := [], res := [.tmp 6], sh := (.cons (.dat .bool) .nil), obs := [], pins := [] }

noncomputable def D_im_areBetween : FD where
  A := A_im_areBetween
  ins := I_im_areBetween
  lend := []
  R := Bool
  F := fun x => F_im_areBetween x.1.1 x.1.2.1 x.1.2.2.1
  emb := fun r => ([.dat .bool r], [])

noncomputable def E_im_areBetween : Env := envOf [(125, D_slices_ContainsFunc_Sint_int), (177, D_im_areBetween_1)]

noncomputable def Z_im_areBetween : Nat → Nat → List Nat := fun _ _ => []

noncomputable def O_im_areBetween : List (Nat × LD) := []

noncomputable def C_im_areBetween : Code := (f136.body).getD .skip

/-! ### 74 slices.IndexFunc[[][]int,[]int] -/

noncomputable def S_slices_IndexFunc_SSint_Sint_0 (k : (List (List (Int))) × (((HL [(.slice (.int .i64))] → Option (Bool))) × (Int))) (v : Int) : Tr ((Int) ⊕ ((Unit) ⊕ (Int))) :=
  .t (decide (v < k.2.2))
    (.g (inR v (List.length k.1)) <|
      .c (Bool) (k.2.1 ((List.getD k.1 (Int.toNat v) ([] : List (Int))), ())) fun r5_ =>
      .t r5_
        (.l (.inr (.inr v)))
        (.l (.inl (IntKind.wrap .i64 (v + (1 : Int))))))
    (.l (.inr (.inl ())))

noncomputable def L_slices_IndexFunc_SSint_Sint_0 (k : (List (List (Int))) × (((HL [(.slice (.int .i64))] → Option (Bool))) × (Int))) (v : Int) : Option ((Unit) ⊕ (Int)) := iter (fun v => (S_slices_IndexFunc_SSint_Sint_0 k v).ev) v

noncomputable def DL_slices_IndexFunc_SSint_Sint_0 : LD where
  head := { acts := [], S := { slots := [0, 1, 7, 8], sh := (.cons (.dat (.slice (.slice (.int .i64)))) (.cons (.clo [(.slice (.int .i64))] .bool) (.cons (.dat (.int .i64)) (.cons (.dat (.int .i64)) .nil)))), obs := [] } }
  exits := [(0, { acts := [], S := { slots := [], sh := .nil, obs := [] } })]
  rets := { acts := [], S := { slots := [4], sh := (.cons (.dat (.int .i64)) .nil), obs := [] } }
  K := (List (List (Int))) × (((HL [(.slice (.int .i64))] → Option (Bool))) × (Int))
  V := Int
  R := (Unit) ⊕ (Int)
  join := fun k v => ((k.1, (k.2.1, (k.2.2, (v, ())))), ())
  sk := fun t => (t.1.1, (t.1.2.1, t.1.2.2.1))
  sv := fun t => t.1.2.2.2.1
  step := S_slices_IndexFunc_SSint_Sint_0
  leaf := fun _ r => .s (Unit) (Int) r (fun _ => .l (.exit 0 (mkSt ({ slots := [], sh := .nil, obs := [] }) ((), ())))) (fun b => .l (.ret (mkSt ({ slots := [4], sh := (.cons (.dat (.int .i64)) .nil), obs := [] }) ((b, ()), ()))))

noncomputable def T_slices_IndexFunc_SSint_Sint (a1_ : List (List (Int))) (a2_ : (HL [(.slice (.int .i64))] → Option (Bool))) : Tr (Int) :=
  .c ((Unit) ⊕ (Int)) (L_slices_IndexFunc_SSint_Sint_0 (a1_, (a2_, ((List.length a1_ : Nat) : Int))) (0 : Int)) fun r7_ =>
  .s (Unit) (Int) r7_
    (fun _ => .l (-1 : Int))
    (fun r9_ => .l r9_)

noncomputable def F_slices_IndexFunc_SSint_Sint (a1_ : List (List (Int))) (a2_ : (HL [(.slice (.int .i64))] → Option (Bool))) : Option (Int) := (T_slices_IndexFunc_SSint_Sint a1_ a2_).ev

noncomputable def A_slices_IndexFunc_SSint_Sint : Sh := (.cons (.dat (.slice (.slice (.int .i64)))) (.cons (.clo [(.slice (.int .i64))] .bool) .nil))

noncomputable def I_slices_IndexFunc_SSint_Sint : List (Nat × OSh) := []

noncomputable def K_slices_IndexFunc_SSint_Sint : RetK := { acts := [], res := [.tmp 4], sh := (.cons (.dat (.int .i64)) .nil), obs := [], pins := [] }

noncomputable def D_slices_IndexFunc_SSint_Sint : FD where
  A := A_slices_IndexFunc_SSint_Sint
  ins := I_slices_IndexFunc_SSint_Sint
  lend := []
  R := Int
  F := fun x => F_slices_IndexFunc_SSint_Sint x.1.1 x.1.2.1
  emb := fun r => ([.dat (.int .i64) r], [])

noncomputable def E_slices_IndexFunc_SSint_Sint : Env := envOf []

noncomputable def Z_slices_IndexFunc_SSint_Sint : Nat → Nat → List Nat := fun _ _ => []

noncomputable def O_slices_IndexFunc_SSint_Sint : List (Nat × LD) := [(0, DL_slices_IndexFunc_SSint_Sint_0)]

noncomputable def C_slices_IndexFunc_SSint_Sint : Code := (f74.body).getD .skip

/-! ### 141 slices.ContainsFunc[[][]int,[]int] -/

noncomputable def T_slices_ContainsFunc_SSint_Sint (a1_ : List (List (Int))) (a2_ : (HL [(.slice (.int .i64))] → Option (Bool))) : Tr (Bool) :=
  .c (Int) (F_slices_IndexFunc_SSint_Sint a1_ a2_) fun r1_ =>
  .l (decide ((0 : Int) ≤ r1_))

noncomputable def F_slices_ContainsFunc_SSint_Sint (a1_ : List (List (Int))) (a2_ : (HL [(.slice (.int .i64))] → Option (Bool))) : Option (Bool) := (T_slices_ContainsFunc_SSint_Sint a1_ a2_).ev

noncomputable def A_slices_ContainsFunc_SSint_Sint : Sh := (.cons (.dat (.slice (.slice (.int .i64)))) (.cons (.clo [(.slice (.int .i64))] .bool) .nil))

noncomputable def I_slices_ContainsFunc_SSint_Sint : List (Nat × OSh) := []

noncomputable def K_slices_ContainsFunc_SSint_Sint : RetK := { acts := [], res := [.tmp 4], sh := (.cons (.dat .bool) .nil), obs := [], pins := [] }

noncomputable def D_slices_ContainsFunc_SSint_Sint : FD where
  A := A_slices_ContainsFunc_SSint_Sint
  ins := I_slices_ContainsFunc_SSint_Sint
  lend := []
  R := Bool
  F := fun x => F_slices_ContainsFunc_SSint_Sint x.1.1 x.1.2.1
  emb := fun r => ([.dat .bool r], [])

noncomputable def E_slices_ContainsFunc_SSint_Sint : Env := envOf [(74, D_slices_IndexFunc_SSint_Sint)]

noncomputable def Z_slices_ContainsFunc_SSint_Sint : Nat → Nat → List Nat := fun _ _ => []

noncomputable def O_slices_ContainsFunc_SSint_Sint : List (Nat × LD) := []

noncomputable def C_slices_ContainsFunc_SSint_Sint : Code := (f141.body).getD .skip

/-! ### 142 loop.example/g01110/impl.IsField 1 -/

noncomputable def T_im_IsField_1 (a1_ : List (Int)) (a2_ : List (Int)) (_a3_ : List (List (Int))) : Tr (Bool) :=
  .t (((List.length a1_ : Nat) : Int) != ((List.length a2_ : Nat) : Int))
    (.l true)
    (.c (Bool) (F_im_areBetween a1_ (0 : Int) (99 : Int)) fun r1_ =>
      .l (!r1_))

noncomputable def F_im_IsField_1 (a1_ : List (Int)) (a2_ : List (Int)) (a3_ : List (List (Int))) : Option (Bool) := (T_im_IsField_1 a1_ a2_ a3_).ev

noncomputable def A_im_IsField_1 : Sh := (.cons (.dat (.slice (.int .i64))) (.cons (.ptr (.cons (.dat (.slice (.int .i64))) (.cons (.dat (.slice (.slice (.int .i64)))) .nil))) .nil))

noncomputable def I_im_IsField_1 : List (Nat × OSh) := []

noncomputable def K_im_IsField_1 : RetK := { acts := [], res := [.tmp 3], sh := (.cons (.dat .bool) .nil), obs := [], pins := [] }

noncomputable def D_im_IsField_1 : FD where
  A := A_im_IsField_1
  ins := I_im_IsField_1
  lend := []
  R := Bool
  F := fun x => F_im_IsField_1 x.1.1 x.1.2.1.1 x.1.2.1.2.1
  emb := fun r => ([.dat .bool r], [])

noncomputable def E_im_IsField_1 : Env := envOf [(136, D_im_areBetween)]

noncomputable def Z_im_IsField_1 : Nat → Nat → List Nat := fun _ _ => []

noncomputable def O_im_IsField_1 : List (Nat × LD) := []

noncomputable def C_im_IsField_1 : Code := (f142.body).getD .skip

/-! ### 79 loop.example/g01110/impl.IsField -/

noncomputable def T_im_IsField (a1_ : List (Int)) (a2_ : List (List (Int))) : Tr (Bool) :=
  .c (Bool) (F_im_between ((List.length a1_ : Nat) : Int) (1 : Int) (7 : Int)) fun r1_ =>
  .t r1_
    (.c (Bool) (F_im_areBetween a1_ (0 : Int) (99 : Int)) fun r2_ =>
      .t r2_
        (.t (decide (((List.length a2_ : Nat) : Int) ≤ (7 : Int)))
            (.c (Bool) (F_slices_ContainsFunc_SSint_Sint a2_ (fun h3_ => Option.bind (F_im_IsField_1 h3_.1 a1_ a2_) fun y4_ => some y4_)) fun r5_ =>
              .l (!r5_))
            (.l false))
        (.l false))
    (.l false)

noncomputable def F_im_IsField (a1_ : List (Int)) (a2_ : List (List (Int))) : Option (Bool) := (T_im_IsField a1_ a2_).ev

noncomputable def A_im_IsField : Sh := (.cons (.agg (.cons (.dat (.slice (.int .i64))) (.cons (.dat (.slice (.slice (.int .i64)))) .nil))) .nil)

noncomputable def I_im_IsField : List (Nat × OSh) := []

noncomputable def K_im_IsField : RetK := { acts := [], res := [.tmp 2], sh := (.cons (.dat .bool) .nil), obs := [], pins := [] }

noncomputable def D_im_IsField : FD where
  A := A_im_IsField
  ins := I_im_IsField
  lend := []
  R := Bool
  F := fun x => F_im_IsField x.1.1.1 x.1.1.2.1
  emb := fun r => ([.dat .bool r], [])

noncomputable def E_im_IsField : Env := envOf [(73, D_im_between), (136, D_im_areBetween), (141, D_slices_ContainsFunc_SSint_Sint), (142, D_im_IsField_1)]

noncomputable def Z_im_IsField : Nat → Nat → List Nat := fun _ _ => []

noncomputable def O_im_IsField : List (Nat × LD) := []

noncomputable def C_im_IsField : Code := (f79.body).getD .skip

/-! ### 146 loop.example/g01110/impl.isRising -/

noncomputable def S_im_isRising_0 (k : (List (Int)) × ((Int) × ((List (Int)) × (Int)))) (v : Int) : Tr ((Int) ⊕ ((Unit) ⊕ (Unit))) :=
  .t (decide (v < k.2.2.2))
    (.g (inR v (List.length k.2.2.1)) <|
      .c (Bool) (F_im_between (List.getD k.2.2.1 (Int.toNat v) (0 : Int)) (0 : Int) (IntKind.wrap .i64 (k.2.1 - (1 : Int)))) fun r6_ =>
      .t (!r6_)
        (.l (.inr (.inr ())))
        (.t (decide ((0 : Int) < v))
            (.g (inR (IntKind.wrap .i64 (v - (1 : Int))) (List.length k.1)) <|
              .t (decide ((List.getD k.2.2.1 (Int.toNat v) (0 : Int)) ≤ (List.getD k.1 (Int.toNat (IntKind.wrap .i64 (v - (1 : Int)))) (0 : Int))))
                (.l (.inr (.inr ())))
                (.l (.inl (IntKind.wrap .i64 (v + (1 : Int))))))
            (.l (.inl (IntKind.wrap .i64 (v + (1 : Int)))))))
    (.l (.inr (.inl ())))

noncomputable def L_im_isRising_0 (k : (List (Int)) × ((Int) × ((List (Int)) × (Int)))) (v : Int) : Option ((Unit) ⊕ (Unit)) := iter (fun v => (S_im_isRising_0 k v).ev) v

noncomputable def DL_im_isRising_0 : LD where
  head := { acts := [], S := { slots := [0, 1, 7, 8, 9], sh := (.cons (.dat (.slice (.int .i64))) (.cons (.dat (.int .i64)) (.cons (.dat (.slice (.int .i64))) (.cons (.dat (.int .i64)) (.cons (.dat (.int .i64)) .nil))))), obs := [] } }
  exits := [(0, { acts := [], S := { slots := [], sh := .nil, obs := [] } })]
  rets := { acts := [], S := { slots := [4], sh := (.cons (.dat .bool) .nil), obs := [] } }
  K := (List (Int)) × ((Int) × ((List (Int)) × (Int)))
  V := Int
  R := (Unit) ⊕ (Unit)
  join := fun k v => ((k.1, (k.2.1, (k.2.2.1, (k.2.2.2, (v, ()))))), ())
  sk := fun t => (t.1.1, (t.1.2.1, (t.1.2.2.1, t.1.2.2.2.1)))
  sv := fun t => t.1.2.2.2.2.1
  step := S_im_isRising_0
  leaf := fun _ r => .s (Unit) (Unit) r (fun _ => .l (.exit 0 (mkSt ({ slots := [], sh := .nil, obs := [] }) ((), ())))) (fun _ => .l (.ret (mkSt ({ slots := [4], sh := (.cons (.dat .bool) .nil), obs := [] }) ((false, ()), ()))))

noncomputable def T_im_isRising (a1_ : List (Int)) (a2_ : Int) : Tr (Bool) :=
  .c ((Unit) ⊕ (Unit)) (L_im_isRising_0 (a1_, (a2_, (a1_, ((List.length a1_ : Nat) : Int)))) (0 : Int)) fun r8_ =>
  .s (Unit) (Unit) r8_
    (fun _ => .l true)
    (fun _ => .l false)

noncomputable def F_im_isRising (a1_ : List (Int)) (a2_ : Int) : Option (Bool) := (T_im_isRising a1_ a2_).ev

noncomputable def A_im_isRising : Sh := (.cons (.dat (.slice (.int .i64))) (.cons (.dat (.int .i64)) .nil))

noncomputable def I_im_isRising : List (Nat × OSh) := []

noncomputable def K_im_isRising : RetK := { acts := [], res := [.tmp 4], sh := (.cons (.dat .bool) .nil), obs := [], pins := [] }

noncomputable def D_im_isRising : FD where
  A := A_im_isRising
  ins := I_im_isRising
  lend := []
  R := Bool
  F := fun x => F_im_isRising x.1.1 x.1.2.1
  emb := fun r => ([.dat .bool r], [])

noncomputable def E_im_isRising : Env := envOf [(73, D_im_between)]

noncomputable def Z_im_isRising : Nat → Nat → List Nat := fun _ _ => []

noncomputable def O_im_isRising : List (Nat × LD) := [(0, DL_im_isRising_0)]

noncomputable def C_im_isRising : Code := (f146.body).getD .skip

/-! ### 83 loop.example/g01110/impl.IsAtlas -/

noncomputable def T_im_IsAtlas (a1_ : List (Int)) (a2_ : List (List (Int))) (a3_ : List (Int)) (a4_ : Int) : Tr (Bool) :=
  .c (Bool) (F_im_IsField a1_ a2_) fun r1_ =>
  .t r1_
    (.c (Bool) (F_im_isRising a3_ ((List.length a1_ : Nat) : Int)) fun r2_ =>
      .t r2_
        (.c (Bool) (F_im_between a4_ (0 : Int) (1000 : Int)) fun r3_ =>
          .l r3_)
        (.l false))
    (.l false)

noncomputable def F_im_IsAtlas (a1_ : List (Int)) (a2_ : List (List (Int))) (a3_ : List (Int)) (a4_ : Int) : Option (Bool) := (T_im_IsAtlas a1_ a2_ a3_ a4_).ev

noncomputable def A_im_IsAtlas : Sh := (.cons (.agg (.cons (.dat (.slice (.int .i64))) (.cons (.dat (.slice (.slice (.int .i64)))) (.cons (.dat (.slice (.int .i64))) (.cons (.dat (.int .i64)) .nil))))) .nil)

noncomputable def I_im_IsAtlas : List (Nat × OSh) := []

noncomputable def K_im_IsAtlas : RetK := { acts := [], res := [.tmp 2], sh := (.cons (.dat .bool) .nil), obs := [], pins := [] }

noncomputable def D_im_IsAtlas : FD where
  A := A_im_IsAtlas
  ins := I_im_IsAtlas
  lend := []
  R := Bool
  F := fun x => F_im_IsAtlas x.1.1.1 x.1.1.2.1 x.1.1.2.2.1 x.1.1.2.2.2.1
  emb := fun r => ([.dat .bool r], [])

noncomputable def E_im_IsAtlas : Env := envOf [(79, D_im_IsField), (146, D_im_isRising), (73, D_im_between)]

noncomputable def Z_im_IsAtlas : Nat → Nat → List Nat := fun _ _ => []

noncomputable def O_im_IsAtlas : List (Nat × LD) := []

noncomputable def C_im_IsAtlas : Code := (f83.body).getD .skip

/-! ### 149 (loop.example/g01110/impl.Field).isSet -/

noncomputable def T_im_Field_isSet (a1_ : List (Int)) (_a2_ : List (List (Int))) (a3_ : List (Int)) : Tr (Bool) :=
  .t (decide ((0 : Int) < ((List.length a3_ : Nat) : Int)))
    (.c (Bool) (F_im_isRising a3_ ((List.length a1_ : Nat) : Int)) fun r1_ =>
      .l r1_)
    (.l false)

noncomputable def F_im_Field_isSet (a1_ : List (Int)) (a2_ : List (List (Int))) (a3_ : List (Int)) : Option (Bool) := (T_im_Field_isSet a1_ a2_ a3_).ev

noncomputable def A_im_Field_isSet : Sh := (.cons (.agg (.cons (.dat (.slice (.int .i64))) (.cons (.dat (.slice (.slice (.int .i64)))) .nil))) (.cons (.dat (.slice (.int .i64))) .nil))

noncomputable def I_im_Field_isSet : List (Nat × OSh) := []

noncomputable def K_im_Field_isSet : RetK := { acts := [], res := [.tmp 4], sh := (.cons (.dat .bool) .nil), obs := [], pins := [] }

noncomputable def D_im_Field_isSet : FD where
  A := A_im_Field_isSet
  ins := I_im_Field_isSet
  lend := []
  R := Bool
  F := fun x => F_im_Field_isSet x.1.1.1 x.1.1.2.1 x.1.2.1
  emb := fun r => ([.dat .bool r], [])

noncomputable def E_im_Field_isSet : Env := envOf [(146, D_im_isRising)]

noncomputable def Z_im_Field_isSet : Nat → Nat → List Nat := fun _ _ => []

noncomputable def O_im_Field_isSet : List (Nat × LD) := []

noncomputable def C_im_Field_isSet : Code := (f149.body).getD .skip

/-! ### 88 loop.example/g01110/impl.isOpened -/

noncomputable def T_im_isOpened (a1_ : List (Int)) (a2_ : List (List (Int))) (a3_ : List (Int)) : Tr (Bool) :=
  .c (Bool) (F_im_IsField a1_ a2_) fun r1_ =>
  .t r1_
    (.c (Bool) (F_im_Field_isSet a1_ a2_ a3_) fun r2_ =>
      .l r2_)
    (.l false)

noncomputable def F_im_isOpened (a1_ : List (Int)) (a2_ : List (List (Int))) (a3_ : List (Int)) : Option (Bool) := (T_im_isOpened a1_ a2_ a3_).ev

noncomputable def A_im_isOpened : Sh := (.cons (.agg (.cons (.dat (.slice (.int .i64))) (.cons (.dat (.slice (.slice (.int .i64)))) .nil))) (.cons (.dat (.slice (.int .i64))) .nil))

noncomputable def I_im_isOpened : List (Nat × OSh) := []

noncomputable def K_im_isOpened : RetK := { acts := [], res := [.tmp 4], sh := (.cons (.dat .bool) .nil), obs := [], pins := [] }

noncomputable def D_im_isOpened : FD where
  A := A_im_isOpened
  ins := I_im_isOpened
  lend := []
  R := Bool
  F := fun x => F_im_isOpened x.1.1.1 x.1.1.2.1 x.1.2.1
  emb := fun r => ([.dat .bool r], [])

noncomputable def E_im_isOpened : Env := envOf [(79, D_im_IsField), (149, D_im_Field_isSet)]

noncomputable def Z_im_isOpened : Nat → Nat → List Nat := fun _ _ => []

noncomputable def O_im_isOpened : List (Nat × LD) := []

noncomputable def C_im_isOpened : Code := (f88.body).getD .skip

/-! ### 151 (loop.example/g01110/impl.Field).payment -/

noncomputable def S_im_Field_payment_0 (k : (List (Int)) × ((Int) × ((List (Int)) × (List (List (Int)))))) (v : (Int) × (Int)) : Tr (((Int) × (Int)) ⊕ (Int)) :=
  .t (decide (v.2 < k.2.1))
    (.g (inR v.2 (List.length k.1)) <|
      .g (inR (List.getD k.1 (Int.toNat v.2) (0 : Int)) (List.length k.2.2.1)) <|
      .l (.inl ((IntKind.wrap .i64 (v.1 + (List.getD k.2.2.1 (Int.toNat (List.getD k.1 (Int.toNat v.2) (0 : Int))) (0 : Int)))), (IntKind.wrap .i64 (v.2 + (1 : Int))))))
    (.l (.inr v.1))

noncomputable def L_im_Field_payment_0 (k : (List (Int)) × ((Int) × ((List (Int)) × (List (List (Int)))))) (v : (Int) × (Int)) : Option (Int) := iter (fun v => (S_im_Field_payment_0 k v).ev) v

noncomputable def DL_im_Field_payment_0 : LD where
  head := { acts := [], S := { slots := [2, 5, 8, 9, 10], sh := (.cons (.box 2 0) (.cons (.dat (.int .i64)) (.cons (.dat (.slice (.int .i64))) (.cons (.dat (.int .i64)) (.cons (.dat (.int .i64)) .nil))))), obs := [(2, .cells (.cons (.dat (.slice (.int .i64))) (.cons (.dat (.slice (.slice (.int .i64)))) .nil)))] } }
  exits := [(0, { acts := [], S := { slots := [5], sh := (.cons (.dat (.int .i64)) .nil), obs := [] } })]
  rets := { acts := [], S := { slots := [], sh := .nil, obs := [] } }
  K := (List (Int)) × ((Int) × ((List (Int)) × (List (List (Int)))))
  V := (Int) × (Int)
  R := Int
  join := fun k v => (((), (v.1, (k.1, (k.2.1, (v.2, ()))))), ((k.2.2.1, (k.2.2.2, ())), ()))
  sk := fun t => (t.1.2.2.1, (t.1.2.2.2.1, (t.2.1.1, t.2.1.2.1)))
  sv := fun t => (t.1.2.1, t.1.2.2.2.2.1)
  step := S_im_Field_payment_0
  leaf := fun _ r => .l (.exit 0 (mkSt ({ slots := [5], sh := (.cons (.dat (.int .i64)) .nil), obs := [] }) ((r, ()), ())))

noncomputable def T_im_Field_payment (a1_ : List (Int)) (a2_ : List (List (Int))) (a3_ : List (Int)) : Tr (Int) :=
  .c (Int) (L_im_Field_payment_0 (a3_, (((List.length a3_ : Nat) : Int), (a1_, a2_))) ((0 : Int), (0 : Int))) fun r8_ =>
  .l r8_

noncomputable def F_im_Field_payment (a1_ : List (Int)) (a2_ : List (List (Int))) (a3_ : List (Int)) : Option (Int) := (T_im_Field_payment a1_ a2_ a3_).ev

noncomputable def A_im_Field_payment : Sh := (.cons (.agg (.cons (.dat (.slice (.int .i64))) (.cons (.dat (.slice (.slice (.int .i64)))) .nil))) (.cons (.dat (.slice (.int .i64))) .nil))

noncomputable def I_im_Field_payment : List (Nat × OSh) := []

noncomputable def K_im_Field_payment : RetK := { acts := [], res := [.tmp 4], sh := (.cons (.dat (.int .i64)) .nil), obs := [], pins := [] }

noncomputable def D_im_Field_payment : FD where
  A := A_im_Field_payment
  ins := I_im_Field_payment
  lend := []
  R := Int
  F := fun x => F_im_Field_payment x.1.1.1 x.1.1.2.1 x.1.2.1
  emb := fun r => ([.dat (.int .i64) r], [])

noncomputable def E_im_Field_payment : Env := envOf []

noncomputable def Z_im_Field_payment : Nat → Nat → List Nat := fun _ _ => []

noncomputable def O_im_Field_payment : List (Nat × LD) := [(0, DL_im_Field_payment_0)]

noncomputable def C_im_Field_payment : Code := (f151.body).getD .skip

/-! ### 194 (loop.example/g01110/impl.Field).server -/

noncomputable def S_im_Field_server_0 (k : (Int) × ((List (Int)) × ((Int) × ((List (Int)) × (List (List (Int))))))) (v : (Int) × (Int)) : Tr (((Int) × (Int)) ⊕ (Int)) :=
  .t (decide (v.2 < k.2.2.1))
    (.g (inR v.2 (List.length k.2.1)) <|
      .g (inR k.1 (List.length k.2.2.2.2)) <|
      .g (inR (List.getD k.2.1 (Int.toNat v.2) (0 : Int)) (List.length (List.getD k.2.2.2.2 (Int.toNat k.1) ([] : List (Int))))) <|
      .g (inR k.1 (List.length k.2.2.2.2)) <|
      .g (inR v.1 (List.length (List.getD k.2.2.2.2 (Int.toNat k.1) ([] : List (Int))))) <|
      .t (decide ((List.getD (List.getD k.2.2.2.2 (Int.toNat k.1) ([] : List (Int))) (Int.toNat (List.getD k.2.1 (Int.toNat v.2) (0 : Int))) (0 : Int)) < (List.getD (List.getD k.2.2.2.2 (Int.toNat k.1) ([] : List (Int))) (Int.toNat v.1) (0 : Int))))
        (.l (.inl ((List.getD k.2.1 (Int.toNat v.2) (0 : Int)), (IntKind.wrap .i64 (v.2 + (1 : Int))))))
        (.l (.inl (v.1, (IntKind.wrap .i64 (v.2 + (1 : Int)))))))
    (.l (.inr v.1))

noncomputable def L_im_Field_server_0 (k : (Int) × ((List (Int)) × ((Int) × ((List (Int)) × (List (List (Int))))))) (v : (Int) × (Int)) : Option (Int) := iter (fun v => (S_im_Field_server_0 k v).ev) v

noncomputable def DL_im_Field_server_0 : LD where
  head := { acts := [], S := { slots := [1, 3, 7, 13, 14, 15], sh := (.cons (.dat (.int .i64)) (.cons (.box 3 0) (.cons (.dat (.int .i64)) (.cons (.dat (.slice (.int .i64))) (.cons (.dat (.int .i64)) (.cons (.dat (.int .i64)) .nil)))))), obs := [(3, .cells (.cons (.dat (.slice (.int .i64))) (.cons (.dat (.slice (.slice (.int .i64)))) .nil)))] } }
  exits := [(0, { acts := [], S := { slots := [7], sh := (.cons (.dat (.int .i64)) .nil), obs := [] } })]
  rets := { acts := [], S := { slots := [], sh := .nil, obs := [] } }
  K := (Int) × ((List (Int)) × ((Int) × ((List (Int)) × (List (List (Int))))))
  V := (Int) × (Int)
  R := Int
  join := fun k v => ((k.1, ((), (v.1, (k.2.1, (k.2.2.1, (v.2, ())))))), ((k.2.2.2.1, (k.2.2.2.2, ())), ()))
  sk := fun t => (t.1.1, (t.1.2.2.2.1, (t.1.2.2.2.2.1, (t.2.1.1, t.2.1.2.1))))
  sv := fun t => (t.1.2.2.1, t.1.2.2.2.2.2.1)
  step := S_im_Field_server_0
  leaf := fun _ r => .l (.exit 0 (mkSt ({ slots := [7], sh := (.cons (.dat (.int .i64)) .nil), obs := [] }) ((r, ()), ())))

noncomputable def T_im_Field_server (a1_ : List (Int)) (a2_ : List (List (Int))) (a3_ : Int) (a4_ : List (Int)) : Tr (Int) :=
  .g (inR (0 : Int) (List.length a4_)) <|
  .c (Int) (L_im_Field_server_0 (a3_, (a4_, (((List.length a4_ : Nat) : Int), (a1_, a2_)))) ((List.getD a4_ (Int.toNat (0 : Int)) (0 : Int)), (0 : Int))) fun r9_ =>
  .l r9_

noncomputable def F_im_Field_server (a1_ : List (Int)) (a2_ : List (List (Int))) (a3_ : Int) (a4_ : List (Int)) : Option (Int) := (T_im_Field_server a1_ a2_ a3_ a4_).ev

noncomputable def A_im_Field_server : Sh := (.cons (.agg (.cons (.dat (.slice (.int .i64))) (.cons (.dat (.slice (.slice (.int .i64)))) .nil))) (.cons (.dat (.int .i64)) (.cons (.dat (.slice (.int .i64))) .nil)))

noncomputable def I_im_Field_server : List (Nat × OSh) := []

noncomputable def K_im_Field_server : RetK := { acts := [], res := [.tmp 6], sh := (.cons (.dat (.int .i64)) .nil), obs := [], pins := [] }

noncomputable def D_im_Field_server : FD where
  A := A_im_Field_server
  ins := I_im_Field_server
  lend := []
  R := Int
  F := fun x => F_im_Field_server x.1.1.1 x.1.1.2.1 x.1.2.1 x.1.2.2.1
  emb := fun r => ([.dat (.int .i64) r], [])

noncomputable def E_im_Field_server : Env := envOf []

noncomputable def Z_im_Field_server : Nat → Nat → List Nat := fun _ _ => []

noncomputable def O_im_Field_server : List (Nat × LD) := [(0, DL_im_Field_server_0)]

noncomputable def C_im_Field_server : Code := (f194.body).getD .skip

/-! ### 186 (loop.example/g01110/impl.Field).served -/

noncomputable def S_im_Field_served_0 (k : (List (Int)) × ((Int) × ((List (Int)) × (List (List (Int)))))) (v : (Int) × (List (Int))) : Tr (((Int) × (List (Int))) ⊕ (List (Int))) :=
  .t (decide (v.1 < k.2.1))
    (.c (Int) (F_im_Field_server k.2.2.1 k.2.2.2 v.1 k.1) fun r7_ =>
      .g (decide ((List.length v.2 + List.length ([r7_] : List (Int))) * 8 ≤ 140737488355328)) <|
      .l (.inl ((IntKind.wrap .i64 (v.1 + (1 : Int))), (v.2 ++ ([r7_] : List (Int))))))
    (.l (.inr v.2))

noncomputable def L_im_Field_served_0 (k : (List (Int)) × ((Int) × ((List (Int)) × (List (List (Int)))))) (v : (Int) × (List (Int))) : Option (List (Int)) := iter (fun v => (S_im_Field_served_0 k v).ev) v

noncomputable def DL_im_Field_served_0 : LD where
  head := { acts := [], S := { slots := [1, 2, 5, 10, 11], sh := (.cons (.dat (.slice (.int .i64))) (.cons (.box 2 0) (.cons (.arr 7) (.cons (.dat (.int .i64)) (.cons (.dat (.int .i64)) .nil))))), obs := [(2, .cells (.cons (.dat (.slice (.int .i64))) (.cons (.dat (.slice (.slice (.int .i64)))) .nil))), (7, .arr 3 (.int .i64))] } }
  exits := [(0, { acts := [], S := { slots := [5], sh := (.cons (.arr 7) .nil), obs := [(7, .arr 3 (.int .i64))] } })]
  rets := { acts := [], S := { slots := [], sh := .nil, obs := [] } }
  K := (List (Int)) × ((Int) × ((List (Int)) × (List (List (Int)))))
  V := (Int) × (List (Int))
  R := List (Int)
  join := fun k v => ((k.1, ((), ((), (k.2.1, (v.1, ()))))), ((k.2.2.1, (k.2.2.2, ())), (v.2, ())))
  sk := fun t => (t.1.1, (t.1.2.2.2.1, (t.2.1.1, t.2.1.2.1)))
  sv := fun t => (t.1.2.2.2.2.1, t.2.2.1)
  step := S_im_Field_served_0
  leaf := fun _ r => .l (.exit 0 (mkSt ({ slots := [5], sh := (.cons (.arr 7) .nil), obs := [(7, .arr 3 (.int .i64))] }) (((), ()), (r, ()))))

noncomputable def T_im_Field_served (a1_ : List (Int)) (a2_ : List (List (Int))) (a3_ : List (Int)) : Tr (List (Int)) :=
  .c (List (Int)) (L_im_Field_served_0 (a3_, (((List.length a2_ : Nat) : Int), (a1_, a2_))) ((0 : Int), ([] : List (Int)))) fun r9_ =>
  .l r9_

noncomputable def F_im_Field_served (a1_ : List (Int)) (a2_ : List (List (Int))) (a3_ : List (Int)) : Option (List (Int)) := (T_im_Field_served a1_ a2_ a3_).ev

noncomputable def A_im_Field_served : Sh := (.cons (.agg (.cons (.dat (.slice (.int .i64))) (.cons (.dat (.slice (.slice (.int .i64)))) .nil))) (.cons (.dat (.slice (.int .i64))) .nil))

noncomputable def I_im_Field_served : List (Nat × OSh) := []

noncomputable def K_im_Field_served : RetK := { acts := [.ren 7 0], res := [.tmp 4], sh := (.cons (.arr 0) .nil), obs := [(0, .arr 3 (.int .i64))], pins := [] }

noncomputable def D_im_Field_served : FD where
  A := A_im_Field_served
  ins := I_im_Field_served
  lend := []
  R := List (Int)
  F := fun x => F_im_Field_served x.1.1.1 x.1.1.2.1 x.1.2.1
  emb := fun r => ([.arr 0], [(0, .arr 3 (.int .i64) r)])

noncomputable def E_im_Field_served : Env := envOf [(194, D_im_Field_server)]

noncomputable def Z_im_Field_served : Nat → Nat → List Nat := fun _ _ => []

noncomputable def O_im_Field_served : List (Nat × LD) := [(0, DL_im_Field_served_0)]

noncomputable def C_im_Field_served : Code := (f186.body).getD .skip

/-! ### 165 (loop.example/g01110/impl.Field).lengths -/

noncomputable def S_im_Field_lengths_0 (k : (Int) × ((List (Int)) × ((List (List (Int))) × (List (Int))))) (v : (Int) × (List (Int))) : Tr (((Int) × (List (Int))) ⊕ (List (Int))) :=
  .t (decide (v.1 < k.1))
    (.g (inR v.1 (List.length k.2.2.2)) <|
      .g (decide ((Int.toNat v.1) < List.length k.2.2.2)) <|
      .g (inR v.1 (List.length k.2.2.1)) <|
      .g (inR (List.getD k.2.2.2 (Int.toNat v.1) (0 : Int)) (List.length (List.getD k.2.2.1 (Int.toNat v.1) ([] : List (Int))))) <|
      .g (decide ((List.length v.2 + List.length ([(List.getD (List.getD k.2.2.1 (Int.toNat v.1) ([] : List (Int))) (Int.toNat (List.getD k.2.2.2 (Int.toNat v.1) (0 : Int))) (0 : Int))] : List (Int))) * 8 ≤ 140737488355328)) <|
      .l (.inl ((IntKind.wrap .i64 (v.1 + (1 : Int))), (v.2 ++ ([(List.getD (List.getD k.2.2.1 (Int.toNat v.1) ([] : List (Int))) (Int.toNat (List.getD k.2.2.2 (Int.toNat v.1) (0 : Int))) (0 : Int))] : List (Int))))))
    (.l (.inr v.2))

noncomputable def L_im_Field_lengths_0 (k : (Int) × ((List (Int)) × ((List (List (Int))) × (List (Int))))) (v : (Int) × (List (Int))) : Option (List (Int)) := iter (fun v => (S_im_Field_lengths_0 k v).ev) v

noncomputable def DL_im_Field_lengths_0 : LD where
  head := { acts := [], S := { slots := [2, 5, 11, 12, 13], sh := (.cons (.box 2 0) (.cons (.arr 8) (.cons (.arr 704) (.cons (.dat (.int .i64)) (.cons (.dat (.int .i64)) .nil))))), obs := [(2, .cells (.cons (.dat (.slice (.int .i64))) (.cons (.dat (.slice (.slice (.int .i64)))) .nil))), (8, .arr 3 (.int .i64)), (704, .arr 3 (.int .i64))] } }
  exits := [(0, { acts := [], S := { slots := [5], sh := (.cons (.arr 8) .nil), obs := [(8, .arr 3 (.int .i64))] } })]
  rets := { acts := [], S := { slots := [], sh := .nil, obs := [] } }
  K := (Int) × ((List (Int)) × ((List (List (Int))) × (List (Int))))
  V := (Int) × (List (Int))
  R := List (Int)
  join := fun k v => (((), ((), ((), (k.1, (v.1, ()))))), ((k.2.1, (k.2.2.1, ())), (v.2, (k.2.2.2, ()))))
  sk := fun t => (t.1.2.2.2.1, (t.2.1.1, (t.2.1.2.1, t.2.2.2.1)))
  sv := fun t => (t.1.2.2.2.2.1, t.2.2.1)
  step := S_im_Field_lengths_0
  leaf := fun _ r => .l (.exit 0 (mkSt ({ slots := [5], sh := (.cons (.arr 8) .nil), obs := [(8, .arr 3 (.int .i64))] }) (((), ()), (r, ()))))

noncomputable def T_im_Field_lengths (a1_ : List (Int)) (a2_ : List (List (Int))) (a3_ : List (Int)) : Tr (List (Int)) :=
  .c (List (Int)) (F_im_Field_served a1_ a2_ a3_) fun r1_ =>
  .c (List (Int)) (L_im_Field_lengths_0 (((List.length r1_ : Nat) : Int), (a1_, (a2_, r1_))) ((0 : Int), ([] : List (Int)))) fun r9_ =>
  .l r9_

noncomputable def F_im_Field_lengths (a1_ : List (Int)) (a2_ : List (List (Int))) (a3_ : List (Int)) : Option (List (Int)) := (T_im_Field_lengths a1_ a2_ a3_).ev

noncomputable def A_im_Field_lengths : Sh := (.cons (.agg (.cons (.dat (.slice (.int .i64))) (.cons (.dat (.slice (.slice (.int .i64)))) .nil))) (.cons (.dat (.slice (.int .i64))) .nil))

noncomputable def I_im_Field_lengths : List (Nat × OSh) := []

noncomputable def K_im_Field_lengths : RetK := { acts := [.ren 8 0], res := [.tmp 4], sh := (.cons (.arr 0) .nil), obs := [(0, .arr 3 (.int .i64))], pins := [] }

noncomputable def D_im_Field_lengths : FD where
  A := A_im_Field_lengths
  ins := I_im_Field_lengths
  lend := []
  R := List (Int)
  F := fun x => F_im_Field_lengths x.1.1.1 x.1.1.2.1 x.1.2.1
  emb := fun r => ([.arr 0], [(0, .arr 3 (.int .i64) r)])

noncomputable def E_im_Field_lengths : Env := envOf [(186, D_im_Field_served)]

noncomputable def Z_im_Field_lengths : Nat → Nat → List Nat := fun _ _ => []

noncomputable def O_im_Field_lengths : List (Nat × LD) := [(0, DL_im_Field_lengths_0)]

noncomputable def C_im_Field_lengths : Code := (f165.body).getD .skip

/-! ### 108 loop.example/g01110/impl.sum -/

noncomputable def S_im_sum_0 (k : (List (Int)) × (Int)) (v : (Int) × (Int)) : Tr (((Int) × (Int)) ⊕ (Int)) :=
  .t (decide (v.2 < k.2))
    (.g (inR v.2 (List.length k.1)) <|
      .l (.inl ((IntKind.wrap .i64 (v.1 + (List.getD k.1 (Int.toNat v.2) (0 : Int)))), (IntKind.wrap .i64 (v.2 + (1 : Int))))))
    (.l (.inr v.1))

noncomputable def L_im_sum_0 (k : (List (Int)) × (Int)) (v : (Int) × (Int)) : Option (Int) := iter (fun v => (S_im_sum_0 k v).ev) v

noncomputable def DL_im_sum_0 : LD where
  head := { acts := [], S := { slots := [3, 6, 7, 8], sh := (.cons (.dat (.int .i64)) (.cons (.dat (.slice (.int .i64))) (.cons (.dat (.int .i64)) (.cons (.dat (.int .i64)) .nil)))), obs := [] } }
  exits := [(0, { acts := [], S := { slots := [3], sh := (.cons (.dat (.int .i64)) .nil), obs := [] } })]
  rets := { acts := [], S := { slots := [], sh := .nil, obs := [] } }
  K := (List (Int)) × (Int)
  V := (Int) × (Int)
  R := Int
  join := fun k v => ((v.1, (k.1, (k.2, (v.2, ())))), ())
  sk := fun t => (t.1.2.1, t.1.2.2.1)
  sv := fun t => (t.1.1, t.1.2.2.2.1)
  step := S_im_sum_0
  leaf := fun _ r => .l (.exit 0 (mkSt ({ slots := [3], sh := (.cons (.dat (.int .i64)) .nil), obs := [] }) ((r, ()), ())))

noncomputable def T_im_sum (a1_ : List (Int)) : Tr (Int) :=
  .c (Int) (L_im_sum_0 (a1_, ((List.length a1_ : Nat) : Int)) ((0 : Int), (0 : Int))) fun r6_ =>
  .l r6_

noncomputable def F_im_sum (a1_ : List (Int)) : Option (Int) := (T_im_sum a1_).ev

noncomputable def A_im_sum : Sh := (.cons (.dat (.slice (.int .i64))) .nil)

noncomputable def I_im_sum : List (Nat × OSh) := []

noncomputable def K_im_sum : RetK := { acts := [], res := [.tmp 2], sh := (.cons (.dat (.int .i64)) .nil), obs := [], pins := [] }

noncomputable def D_im_sum : FD where
  A := A_im_sum
  ins := I_im_sum
  lend := []
  R := Int
  F := fun x => F_im_sum x.1.1
  emb := fun r => ([.dat (.int .i64) r], [])

noncomputable def E_im_sum : Env := envOf []

noncomputable def Z_im_sum : Nat → Nat → List Nat := fun _ _ => []

noncomputable def O_im_sum : List (Nat × LD) := [(0, DL_im_sum_0)]

noncomputable def C_im_sum : Code := (f108.body).getD .skip

/-! ### 150 (loop.example/g01110/impl.Field).service -/

noncomputable def T_im_Field_service (a1_ : List (Int)) (a2_ : List (List (Int))) (a3_ : List (Int)) : Tr (Int) :=
  .c (List (Int)) (F_im_Field_lengths a1_ a2_ a3_) fun r1_ =>
  .c (Int) (F_im_sum r1_) fun r2_ =>
  .l r2_

noncomputable def F_im_Field_service (a1_ : List (Int)) (a2_ : List (List (Int))) (a3_ : List (Int)) : Option (Int) := (T_im_Field_service a1_ a2_ a3_).ev

noncomputable def A_im_Field_service : Sh := (.cons (.agg (.cons (.dat (.slice (.int .i64))) (.cons (.dat (.slice (.slice (.int .i64)))) .nil))) (.cons (.dat (.slice (.int .i64))) .nil))

noncomputable def I_im_Field_service : List (Nat × OSh) := []

noncomputable def K_im_Field_service : RetK := { acts := [], res := [.tmp 4], sh := (.cons (.dat (.int .i64)) .nil), obs := [], pins := [] }

noncomputable def D_im_Field_service : FD where
  A := A_im_Field_service
  ins := I_im_Field_service
  lend := []
  R := Int
  F := fun x => F_im_Field_service x.1.1.1 x.1.1.2.1 x.1.2.1
  emb := fun r => ([.dat (.int .i64) r], [])

noncomputable def E_im_Field_service : Env := envOf [(165, D_im_Field_lengths), (108, D_im_sum)]

noncomputable def Z_im_Field_service : Nat → Nat → List Nat := fun _ _ => []

noncomputable def O_im_Field_service : List (Nat × LD) := []

noncomputable def C_im_Field_service : Code := (f150.body).getD .skip

/-! ### 147 (loop.example/g01110/impl.Field).total -/

noncomputable def T_im_Field_total (a1_ : List (Int)) (a2_ : List (List (Int))) (a3_ : List (Int)) : Tr (Int) :=
  .c (Int) (F_im_Field_payment a1_ a2_ a3_) fun r1_ =>
  .c (Int) (F_im_Field_service a1_ a2_ a3_) fun r2_ =>
  .l (IntKind.wrap .i64 (r1_ + r2_))

noncomputable def F_im_Field_total (a1_ : List (Int)) (a2_ : List (List (Int))) (a3_ : List (Int)) : Option (Int) := (T_im_Field_total a1_ a2_ a3_).ev

noncomputable def A_im_Field_total : Sh := (.cons (.agg (.cons (.dat (.slice (.int .i64))) (.cons (.dat (.slice (.slice (.int .i64)))) .nil))) (.cons (.dat (.slice (.int .i64))) .nil))

noncomputable def I_im_Field_total : List (Nat × OSh) := []

noncomputable def K_im_Field_total : RetK := { acts := [], res := [.tmp 4], sh := (.cons (.dat (.int .i64)) .nil), obs := [], pins := [] }

noncomputable def D_im_Field_total : FD where
  A := A_im_Field_total
  ins := I_im_Field_total
  lend := []
  R := Int
  F := fun x => F_im_Field_total x.1.1.1 x.1.1.2.1 x.1.2.1
  emb := fun r => ([.dat (.int .i64) r], [])

noncomputable def E_im_Field_total : Env := envOf [(151, D_im_Field_payment), (150, D_im_Field_service)]

noncomputable def Z_im_Field_total : Nat → Nat → List Nat := fun _ _ => []

noncomputable def O_im_Field_total : List (Nat × LD) := []

noncomputable def C_im_Field_total : Code := (f147.body).getD .skip

/-! ### 84 loop.example/g01110/impl.TotalOf -/

noncomputable def T_im_TotalOf (a1_ : List (Int)) (a2_ : List (List (Int))) (a3_ : List (Int)) : Tr ((Int) × (Bool)) :=
  .c (Bool) (F_im_isOpened a1_ a2_ a3_) fun r1_ =>
  .t (!r1_)
    (.l ((0 : Int), false))
    (.c (Int) (F_im_Field_total a1_ a2_ a3_) fun r2_ =>
      .l (r2_, true))

noncomputable def F_im_TotalOf (a1_ : List (Int)) (a2_ : List (List (Int))) (a3_ : List (Int)) : Option ((Int) × (Bool)) := (T_im_TotalOf a1_ a2_ a3_).ev

noncomputable def A_im_TotalOf : Sh := (.cons (.agg (.cons (.dat (.slice (.int .i64))) (.cons (.dat (.slice (.slice (.int .i64)))) .nil))) (.cons (.dat (.slice (.int .i64))) .nil))

noncomputable def I_im_TotalOf : List (Nat × OSh) := []

noncomputable def K_im_TotalOf : RetK := { acts := [], res := [.tmp 4, .tmp 5], sh := (.cons (.dat (.int .i64)) (.cons (.dat .bool) .nil)), obs := [], pins := [] }

noncomputable def D_im_TotalOf : FD where
  A := A_im_TotalOf
  ins := I_im_TotalOf
  lend := []
  R := (Int) × (Bool)
  F := fun x => F_im_TotalOf x.1.1.1 x.1.1.2.1 x.1.2.1
  emb := fun r => ([.dat (.int .i64) r.1, .dat .bool r.2], [])

noncomputable def E_im_TotalOf : Env := envOf [(88, D_im_isOpened), (147, D_im_Field_total)]

noncomputable def Z_im_TotalOf : Nat → Nat → List Nat := fun _ _ => []

noncomputable def O_im_TotalOf : List (Nat × LD) := []

noncomputable def C_im_TotalOf : Code := (f84.body).getD .skip

/-! ### 34 loop.example/g01110/impl.AtlasTotal -/

noncomputable def T_im_AtlasTotal (a1_ : List (Int)) (a2_ : List (List (Int))) (a3_ : List (Int)) (a4_ : Int) : Tr ((Int) × (Bool)) :=
  .c (Bool) (F_im_IsAtlas a1_ a2_ a3_ a4_) fun r1_ =>
  .t (!r1_)
    (.l ((0 : Int), false))
    (.c ((Int) × (Bool)) (F_im_TotalOf a1_ a2_ a3_) fun r2_ =>
      .l (r2_.1, r2_.2))

noncomputable def F_im_AtlasTotal (a1_ : List (Int)) (a2_ : List (List (Int))) (a3_ : List (Int)) (a4_ : Int) : Option ((Int) × (Bool)) := (T_im_AtlasTotal a1_ a2_ a3_ a4_).ev

noncomputable def A_im_AtlasTotal : Sh := (.cons (.agg (.cons (.dat (.slice (.int .i64))) (.cons (.dat (.slice (.slice (.int .i64)))) (.cons (.dat (.slice (.int .i64))) (.cons (.dat (.int .i64)) .nil))))) .nil)

noncomputable def I_im_AtlasTotal : List (Nat × OSh) := []

noncomputable def K_im_AtlasTotal : RetK := { acts := [], res := [.tmp 2, .tmp 3], sh := (.cons (.dat (.int .i64)) (.cons (.dat .bool) .nil)), obs := [], pins := [] }

noncomputable def D_im_AtlasTotal : FD where
  A := A_im_AtlasTotal
  ins := I_im_AtlasTotal
  lend := []
  R := (Int) × (Bool)
  F := fun x => F_im_AtlasTotal x.1.1.1 x.1.1.2.1 x.1.1.2.2.1 x.1.1.2.2.2.1
  emb := fun r => ([.dat (.int .i64) r.1, .dat .bool r.2], [])

noncomputable def E_im_AtlasTotal : Env := envOf [(83, D_im_IsAtlas), (84, D_im_TotalOf)]

noncomputable def Z_im_AtlasTotal : Nat → Nat → List Nat := fun _ _ => []

noncomputable def O_im_AtlasTotal : List (Nat × LD) := []

noncomputable def C_im_AtlasTotal : Code := (f34.body).getD .skip

/-! ### 159 slices.Min[[]int,int] -/

noncomputable def S_slices_Min_Sint_int_0 (k : List (Int)) (v : (Int) × (Int)) : Tr (((Int) × (Int)) ⊕ (Int)) :=
  .t (decide (v.2 < ((List.length k : Nat) : Int)))
    (.g (inR v.2 (List.length k)) <|
      .l (.inl ((if (List.getD k (Int.toNat v.2) (0 : Int)) < v.1 then (List.getD k (Int.toNat v.2) (0 : Int)) else v.1), (IntKind.wrap .i64 (v.2 + (1 : Int))))))
    (.l (.inr v.1))

noncomputable def L_slices_Min_Sint_int_0 (k : List (Int)) (v : (Int) × (Int)) : Option (Int) := iter (fun v => (S_slices_Min_Sint_int_0 k v).ev) v

noncomputable def DL_slices_Min_Sint_int_0 : LD where
  head := { acts := [], S := { slots := [0, 3, 4], sh := (.cons (.dat (.slice (.int .i64))) (.cons (.dat (.int .i64)) (.cons (.dat (.int .i64)) .nil))), obs := [] } }
  exits := [(0, { acts := [], S := { slots := [3], sh := (.cons (.dat (.int .i64)) .nil), obs := [] } })]
  rets := { acts := [], S := { slots := [], sh := .nil, obs := [] } }
  K := List (Int)
  V := (Int) × (Int)
  R := Int
  join := fun k v => ((k, (v.1, (v.2, ()))), ())
  sk := fun t => t.1.1
  sv := fun t => (t.1.2.1, t.1.2.2.1)
  step := S_slices_Min_Sint_int_0
  leaf := fun _ r => .l (.exit 0 (mkSt ({ slots := [3], sh := (.cons (.dat (.int .i64)) .nil), obs := [] }) ((r, ()), ())))

noncomputable def T_slices_Min_Sint_int (a1_ : List (Int)) : Tr (Int) :=
  .t (decide (((List.length a1_ : Nat) : Int) < (1 : Int)))
    (.f)
    (.g (inR (0 : Int) (List.length a1_)) <|
      .c (Int) (L_slices_Min_Sint_int_0 a1_ ((List.getD a1_ (Int.toNat (0 : Int)) (0 : Int)), (1 : Int))) fun r5_ =>
      .l r5_)

noncomputable def F_slices_Min_Sint_int (a1_ : List (Int)) : Option (Int) := (T_slices_Min_Sint_int a1_).ev

noncomputable def A_slices_Min_Sint_int : Sh := (.cons (.dat (.slice (.int .i64))) .nil)

noncomputable def I_slices_Min_Sint_int : List (Nat × OSh) := []

noncomputable def K_slices_Min_Sint_int : RetK := { acts := [], res := [.tmp 2], sh := (.cons (.dat (.int .i64)) .nil), obs := [], pins := [] }

noncomputable def D_slices_Min_Sint_int : FD where
  A := A_slices_Min_Sint_int
  ins := I_slices_Min_Sint_int
  lend := []
  R := Int
  F := fun x => F_slices_Min_Sint_int x.1.1
  emb := fun r => ([.dat (.int .i64) r], [])

noncomputable def E_slices_Min_Sint_int : Env := envOf []

noncomputable def Z_slices_Min_Sint_int : Nat → Nat → List Nat := fun _ _ => []

noncomputable def O_slices_Min_Sint_int : List (Nat × LD) := [(0, DL_slices_Min_Sint_int_0)]

noncomputable def C_slices_Min_Sint_int : Code := (f159.body).getD .skip

/-! ### 183 (loop.example/g01110/impl.Field).claims -/

noncomputable def S_im_Field_claims_2 (k : (List (Int)) × ((Int) × ((Int) × ((List (List (Int))) × ((Int) × ((Int) × ((List (Int)) × (Int)))))))) (v : (Int) × (List (Int))) : Tr (((Int) × (List (Int))) ⊕ (List (Int))) :=
  .t (decide (v.1 < k.2.2.2.2.2.2.2))
    (.g (inR v.1 (List.length k.2.2.2.2.2.2.1)) <|
      .g (inR v.1 (List.length v.2)) <|
      .g (decide ((Int.toNat v.1) < List.length v.2)) <|
      .g (inR k.2.2.1 (List.length k.1)) <|
      .g (inR v.1 (List.length v.2)) <|
      .g (decide ((Int.toNat v.1) < List.length v.2)) <|
      .l (.inl ((IntKind.wrap .i64 (v.1 + (1 : Int))), (List.set v.2 (Int.toNat v.1) (IntKind.wrap .i64 ((List.getD v.2 (Int.toNat v.1) (0 : Int)) + (if (0 : Int) < (IntKind.wrap .i64 ((List.getD k.1 (Int.toNat k.2.2.1) (0 : Int)) - (IntKind.wrap .i64 ((List.getD k.2.2.2.2.2.2.1 (Int.toNat v.1) (0 : Int)) * k.2.1)))) then (IntKind.wrap .i64 ((List.getD k.1 (Int.toNat k.2.2.1) (0 : Int)) - (IntKind.wrap .i64 ((List.getD k.2.2.2.2.2.2.1 (Int.toNat v.1) (0 : Int)) * k.2.1)))) else (0 : Int))))))))
    (.l (.inr v.2))

noncomputable def L_im_Field_claims_2 (k : (List (Int)) × ((Int) × ((Int) × ((List (List (Int))) × ((Int) × ((Int) × ((List (Int)) × (Int)))))))) (v : (Int) × (List (Int))) : Option (List (Int)) := iter (fun v => (S_im_Field_claims_2 k v).ev) v

noncomputable def DL_im_Field_claims_2 : LD where
  head := { acts := [], S := { slots := [1, 2, 7, 8, 17, 18, 19, 24, 25, 26], sh := (.cons (.dat (.slice (.int .i64))) (.cons (.dat (.int .i64)) (.cons (.arr 15) (.cons (.dat (.int .i64)) (.cons (.dat (.slice (.slice (.int .i64)))) (.cons (.dat (.int .i64)) (.cons (.dat (.int .i64)) (.cons (.dat (.slice (.int .i64))) (.cons (.dat (.int .i64)) (.cons (.dat (.int .i64)) .nil)))))))))), obs := [(15, .arr 3 (.int .i64))] } }
  exits := [(2, { acts := [], S := { slots := [1, 2, 7, 17, 18, 19], sh := (.cons (.dat (.slice (.int .i64))) (.cons (.dat (.int .i64)) (.cons (.arr 15) (.cons (.dat (.slice (.slice (.int .i64)))) (.cons (.dat (.int .i64)) (.cons (.dat (.int .i64)) .nil)))))), obs := [(15, .arr 3 (.int .i64))] } })]
  rets := { acts := [], S := { slots := [], sh := .nil, obs := [] } }
  K := (List (Int)) × ((Int) × ((Int) × ((List (List (Int))) × ((Int) × ((Int) × ((List (Int)) × (Int)))))))
  V := (Int) × (List (Int))
  R := List (Int)
  join := fun k v => ((k.1, (k.2.1, ((), (k.2.2.1, (k.2.2.2.1, (k.2.2.2.2.1, (k.2.2.2.2.2.1, (k.2.2.2.2.2.2.1, (k.2.2.2.2.2.2.2, (v.1, ())))))))))), (v.2, ()))
  sk := fun t => (t.1.1, (t.1.2.1, (t.1.2.2.2.1, (t.1.2.2.2.2.1, (t.1.2.2.2.2.2.1, (t.1.2.2.2.2.2.2.1, (t.1.2.2.2.2.2.2.2.1, t.1.2.2.2.2.2.2.2.2.1)))))))
  sv := fun t => (t.1.2.2.2.2.2.2.2.2.2.1, t.2.1)
  step := S_im_Field_claims_2
  leaf := fun k r => .l (.exit 2 (mkSt ({ slots := [1, 2, 7, 17, 18, 19], sh := (.cons (.dat (.slice (.int .i64))) (.cons (.dat (.int .i64)) (.cons (.arr 15) (.cons (.dat (.slice (.slice (.int .i64)))) (.cons (.dat (.int .i64)) (.cons (.dat (.int .i64)) .nil)))))), obs := [(15, .arr 3 (.int .i64))] }) ((k.1, (k.2.1, ((), (k.2.2.2.1, (k.2.2.2.2.1, (k.2.2.2.2.2.1, ())))))), (r, ()))))

noncomputable def S_im_Field_claims_0 (k : (List (Int)) × ((Int) × ((List (List (Int))) × (Int)))) (v : (Int) × (List (Int))) : Tr (((Int) × (List (Int))) ⊕ (List (Int))) :=
  .t (decide (v.1 < k.2.2.2))
    (.g (inR v.1 (List.length k.2.2.1)) <|
      .c (List (Int)) (L_im_Field_claims_2 (k.1, (k.2.1, (v.1, (k.2.2.1, (k.2.2.2, (v.1, ((List.getD k.2.2.1 (Int.toNat v.1) ([] : List (Int))), ((List.length (List.getD k.2.2.1 (Int.toNat v.1) ([] : List (Int))) : Nat) : Int)))))))) ((0 : Int), v.2)) fun r23_ =>
      .l (.inl ((IntKind.wrap .i64 (v.1 + (1 : Int))), r23_)))
    (.l (.inr v.2))

noncomputable def L_im_Field_claims_0 (k : (List (Int)) × ((Int) × ((List (List (Int))) × (Int)))) (v : (Int) × (List (Int))) : Option (List (Int)) := iter (fun v => (S_im_Field_claims_0 k v).ev) v

noncomputable def DL_im_Field_claims_0 : LD where
  head := { acts := [], S := { slots := [1, 2, 7, 17, 18, 19], sh := (.cons (.dat (.slice (.int .i64))) (.cons (.dat (.int .i64)) (.cons (.arr 15) (.cons (.dat (.slice (.slice (.int .i64)))) (.cons (.dat (.int .i64)) (.cons (.dat (.int .i64)) .nil)))))), obs := [(15, .arr 3 (.int .i64))] } }
  exits := [(0, { acts := [], S := { slots := [7], sh := (.cons (.arr 15) .nil), obs := [(15, .arr 3 (.int .i64))] } })]
  rets := { acts := [], S := { slots := [], sh := .nil, obs := [] } }
  K := (List (Int)) × ((Int) × ((List (List (Int))) × (Int)))
  V := (Int) × (List (Int))
  R := List (Int)
  join := fun k v => ((k.1, (k.2.1, ((), (k.2.2.1, (k.2.2.2, (v.1, ())))))), (v.2, ()))
  sk := fun t => (t.1.1, (t.1.2.1, (t.1.2.2.2.1, t.1.2.2.2.2.1)))
  sv := fun t => (t.1.2.2.2.2.2.1, t.2.1)
  step := S_im_Field_claims_0
  leaf := fun _ r => .l (.exit 0 (mkSt ({ slots := [7], sh := (.cons (.arr 15) .nil), obs := [(15, .arr 3 (.int .i64))] }) (((), ()), (r, ()))))

noncomputable def T_im_Field_claims (a1_ : List (Int)) (a2_ : List (List (Int))) (a3_ : List (Int)) (a4_ : Int) : Tr (List (Int)) :=
  .g (decide ((0 : Int) ≤ ((List.length a1_ : Nat) : Int)) && decide (((List.length a1_ : Nat) : Int) ≤ ((List.length a1_ : Nat) : Int)) && decide (((8 : Nat) : Int) * ((List.length a1_ : Nat) : Int) ≤ 281474976710656)) <|
  .c (List (Int)) (L_im_Field_claims_0 (a3_, (a4_, (a2_, ((List.length a2_ : Nat) : Int)))) ((0 : Int), (List.replicate (Int.toNat ((List.length a1_ : Nat) : Int)) (0 : Int)))) fun r25_ =>
  .l r25_

noncomputable def F_im_Field_claims (a1_ : List (Int)) (a2_ : List (List (Int))) (a3_ : List (Int)) (a4_ : Int) : Option (List (Int)) := (T_im_Field_claims a1_ a2_ a3_ a4_).ev

noncomputable def A_im_Field_claims : Sh := (.cons (.agg (.cons (.dat (.slice (.int .i64))) (.cons (.dat (.slice (.slice (.int .i64)))) .nil))) (.cons (.dat (.slice (.int .i64))) (.cons (.dat (.int .i64)) .nil)))

noncomputable def I_im_Field_claims : List (Nat × OSh) := []

noncomputable def K_im_Field_claims : RetK := { acts := [.ren 15 0], res := [.tmp 6], sh := (.cons (.arr 0) .nil), obs := [(0, .arr 3 (.int .i64))], pins := [] }

noncomputable def D_im_Field_claims : FD where
  A := A_im_Field_claims
  ins := I_im_Field_claims
  lend := []
  R := List (Int)
  F := fun x => F_im_Field_claims x.1.1.1 x.1.1.2.1 x.1.2.1 x.1.2.2.1
  emb := fun r => ([.arr 0], [(0, .arr 3 (.int .i64) r)])

noncomputable def E_im_Field_claims : Env := envOf []

noncomputable def Z_im_Field_claims : Nat → Nat → List Nat := fun _ _ => []

noncomputable def O_im_Field_claims : List (Nat × LD) := [(2, DL_im_Field_claims_2), (0, DL_im_Field_claims_0)]

noncomputable def C_im_Field_claims : Code := (f183.body).getD .skip

/-! ### 160 (loop.example/g01110/impl.Field).rests -/

noncomputable def S_im_Field_rests_0 (k : (Int) × ((List (Int)) × (List (List (Int))))) (v : (Int) × (List (Int))) : Tr (((Int) × (List (Int))) ⊕ (List (Int))) :=
  .t (decide (v.1 < k.1))
    (.g (inR v.1 (List.length v.2)) <|
      .g (decide ((Int.toNat v.1) < List.length v.2)) <|
      .g (inR v.1 (List.length k.2.1)) <|
      .g (inR v.1 (List.length v.2)) <|
      .g (decide ((Int.toNat v.1) < List.length v.2)) <|
      .l (.inl ((IntKind.wrap .i64 (v.1 + (1 : Int))), (List.set v.2 (Int.toNat v.1) (IntKind.wrap .i64 ((List.getD k.2.1 (Int.toNat v.1) (0 : Int)) - (List.getD v.2 (Int.toNat v.1) (0 : Int))))))))
    (.l (.inr v.2))

noncomputable def L_im_Field_rests_0 (k : (Int) × ((List (Int)) × (List (List (Int))))) (v : (Int) × (List (Int))) : Option (List (Int)) := iter (fun v => (S_im_Field_rests_0 k v).ev) v

noncomputable def DL_im_Field_rests_0 : LD where
  head := { acts := [], S := { slots := [2, 5, 11, 12, 13], sh := (.cons (.box 2 0) (.cons (.arr 640) (.cons (.arr 640) (.cons (.dat (.int .i64)) (.cons (.dat (.int .i64)) .nil))))), obs := [(2, .cells (.cons (.dat (.slice (.int .i64))) (.cons (.dat (.slice (.slice (.int .i64)))) .nil))), (640, .arr 3 (.int .i64))] } }
  exits := [(0, { acts := [], S := { slots := [5], sh := (.cons (.arr 640) .nil), obs := [(640, .arr 3 (.int .i64))] } })]
  rets := { acts := [], S := { slots := [], sh := .nil, obs := [] } }
  K := (Int) × ((List (Int)) × (List (List (Int))))
  V := (Int) × (List (Int))
  R := List (Int)
  join := fun k v => (((), ((), ((), (k.1, (v.1, ()))))), ((k.2.1, (k.2.2, ())), (v.2, ())))
  sk := fun t => (t.1.2.2.2.1, (t.2.1.1, t.2.1.2.1))
  sv := fun t => (t.1.2.2.2.2.1, t.2.2.1)
  step := S_im_Field_rests_0
  leaf := fun _ r => .l (.exit 0 (mkSt ({ slots := [5], sh := (.cons (.arr 640) .nil), obs := [(640, .arr 3 (.int .i64))] }) (((), ()), (r, ()))))

noncomputable def T_im_Field_rests (a1_ : List (Int)) (a2_ : List (List (Int))) (a3_ : List (Int)) : Tr (List (Int)) :=
  .c (List (Int)) (F_im_Field_claims a1_ a2_ a3_ (1 : Int)) fun r1_ =>
  .c (List (Int)) (L_im_Field_rests_0 (((List.length r1_ : Nat) : Int), (a1_, a2_)) ((0 : Int), r1_)) fun r8_ =>
  .l r8_

noncomputable def F_im_Field_rests (a1_ : List (Int)) (a2_ : List (List (Int))) (a3_ : List (Int)) : Option (List (Int)) := (T_im_Field_rests a1_ a2_ a3_).ev

noncomputable def A_im_Field_rests : Sh := (.cons (.agg (.cons (.dat (.slice (.int .i64))) (.cons (.dat (.slice (.slice (.int .i64)))) .nil))) (.cons (.dat (.slice (.int .i64))) .nil))

noncomputable def I_im_Field_rests : List (Nat × OSh) := []

noncomputable def K_im_Field_rests : RetK := { acts := [.ren 640 0], res := [.tmp 4], sh := (.cons (.arr 0) .nil), obs := [(0, .arr 3 (.int .i64))], pins := [] }

noncomputable def D_im_Field_rests : FD where
  A := A_im_Field_rests
  ins := I_im_Field_rests
  lend := []
  R := List (Int)
  F := fun x => F_im_Field_rests x.1.1.1 x.1.1.2.1 x.1.2.1
  emb := fun r => ([.arr 0], [(0, .arr 3 (.int .i64) r)])

noncomputable def E_im_Field_rests : Env := envOf [(183, D_im_Field_claims)]

noncomputable def Z_im_Field_rests : Nat → Nat → List Nat := fun _ _ => []

noncomputable def O_im_Field_rests : List (Nat × LD) := [(0, DL_im_Field_rests_0)]

noncomputable def C_im_Field_rests : Code := (f160.body).getD .skip

/-! ### 107 loop.example/g01110/impl.AscentPrices -/

noncomputable def S_im_AscentPrices_0 (k : (List (List (Int))) × ((Int) × ((List (Int)) × (List (List (Int)))))) (v : (Int) × (List (Int))) : Tr (((Int) × (List (Int))) ⊕ (List (Int))) :=
  .t (decide (v.1 < k.2.1))
    (.g (inR v.1 (List.length k.1)) <|
      .c (Int) (F_slices_Min_Sint_int (List.getD k.1 (Int.toNat v.1) ([] : List (Int)))) fun r8_ =>
      .g (decide ((List.length v.2 + List.length ([r8_] : List (Int))) * 8 ≤ 140737488355328)) <|
      .l (.inl ((IntKind.wrap .i64 (v.1 + (1 : Int))), (v.2 ++ ([r8_] : List (Int))))))
    (.l (.inr v.2))

noncomputable def L_im_AscentPrices_0 (k : (List (List (Int))) × ((Int) × ((List (Int)) × (List (List (Int)))))) (v : (Int) × (List (Int))) : Option (List (Int)) := iter (fun v => (S_im_AscentPrices_0 k v).ev) v

noncomputable def DL_im_AscentPrices_0 : LD where
  head := { acts := [], S := { slots := [1, 4, 21, 22, 23], sh := (.cons (.box 1 0) (.cons (.arr 19) (.cons (.dat (.slice (.slice (.int .i64)))) (.cons (.dat (.int .i64)) (.cons (.dat (.int .i64)) .nil))))), obs := [(1, .cells (.cons (.dat (.slice (.int .i64))) (.cons (.dat (.slice (.slice (.int .i64)))) .nil))), (19, .arr 3 (.int .i64))] } }
  exits := [(0, { acts := [], S := { slots := [1, 4], sh := (.cons (.box 1 0) (.cons (.arr 19) .nil)), obs := [(1, .cells (.cons (.dat (.slice (.int .i64))) (.cons (.dat (.slice (.slice (.int .i64)))) .nil))), (19, .arr 3 (.int .i64))] } })]
  rets := { acts := [], S := { slots := [], sh := .nil, obs := [] } }
  K := (List (List (Int))) × ((Int) × ((List (Int)) × (List (List (Int)))))
  V := (Int) × (List (Int))
  R := List (Int)
  join := fun k v => (((), ((), (k.1, (k.2.1, (v.1, ()))))), ((k.2.2.1, (k.2.2.2, ())), (v.2, ())))
  sk := fun t => (t.1.2.2.1, (t.1.2.2.2.1, (t.2.1.1, t.2.1.2.1)))
  sv := fun t => (t.1.2.2.2.2.1, t.2.2.1)
  step := S_im_AscentPrices_0
  leaf := fun k r => .l (.exit 0 (mkSt ({ slots := [1, 4], sh := (.cons (.box 1 0) (.cons (.arr 19) .nil)), obs := [(1, .cells (.cons (.dat (.slice (.int .i64))) (.cons (.dat (.slice (.slice (.int .i64)))) .nil))), (19, .arr 3 (.int .i64))] }) (((), ((), ())), ((k.2.2.1, (k.2.2.2, ())), (r, ())))))

noncomputable def S_im_AscentPrices_6 (k : (Bool) × ((Int) × ((List (List (Int))) × ((Int) × ((Int) × ((List (Int)) × ((Int) × ((List (Int)) × ((List (List (Int))) × ((List (Int)) × (List (Int)))))))))))) (v : (Int) × ((Int) × (Int))) : Tr (((Int) × ((Int) × (Int))) ⊕ ((Int) × (Int))) :=
  .t (decide (v.2.2 < k.2.2.2.2.2.2.1))
    (.g (inR v.2.2 (List.length k.2.2.2.2.2.1)) <|
      .g (inR k.2.1 (List.length k.2.2.2.2.2.2.2.2.2.1)) <|
      .g (decide ((Int.toNat k.2.1) < List.length k.2.2.2.2.2.2.2.2.2.1)) <|
      .t (decide ((List.getD k.2.2.2.2.2.2.2.2.2.1 (Int.toNat k.2.1) (0 : Int)) < (List.getD k.2.2.2.2.2.1 (Int.toNat v.2.2) (0 : Int))))
        (.t (decide (v.1 < (0 : Int)))
            (.l (.inl ((List.getD k.2.2.2.2.2.1 (Int.toNat v.2.2) (0 : Int)), (v.2.1, (IntKind.wrap .i64 (v.2.2 + (1 : Int)))))))
            (.t (decide ((List.getD k.2.2.2.2.2.1 (Int.toNat v.2.2) (0 : Int)) < v.1))
                (.l (.inl ((List.getD k.2.2.2.2.2.1 (Int.toNat v.2.2) (0 : Int)), (v.2.1, (IntKind.wrap .i64 (v.2.2 + (1 : Int)))))))
                (.g (inR k.2.1 (List.length k.2.2.2.2.2.2.2.2.2.1)) <|
                  .g (decide ((Int.toNat k.2.1) < List.length k.2.2.2.2.2.2.2.2.2.1)) <|
                  .t (decide ((List.getD k.2.2.2.2.2.1 (Int.toNat v.2.2) (0 : Int)) ≤ (List.getD k.2.2.2.2.2.2.2.2.2.1 (Int.toNat k.2.1) (0 : Int))))
                    (.t (decide (v.2.1 < (0 : Int)))
                        (.g (inR v.2.2 (List.length k.2.2.2.2.2.2.2.2.2.2)) <|
                          .g (decide ((Int.toNat v.2.2) < List.length k.2.2.2.2.2.2.2.2.2.2)) <|
                          .l (.inl (v.1, ((List.getD k.2.2.2.2.2.2.2.2.2.2 (Int.toNat v.2.2) (0 : Int)), (IntKind.wrap .i64 (v.2.2 + (1 : Int)))))))
                        (.g (inR v.2.2 (List.length k.2.2.2.2.2.2.2.2.2.2)) <|
                          .g (decide ((Int.toNat v.2.2) < List.length k.2.2.2.2.2.2.2.2.2.2)) <|
                          .t (decide ((List.getD k.2.2.2.2.2.2.2.2.2.2 (Int.toNat v.2.2) (0 : Int)) < v.2.1))
                            (.g (inR v.2.2 (List.length k.2.2.2.2.2.2.2.2.2.2)) <|
                              .g (decide ((Int.toNat v.2.2) < List.length k.2.2.2.2.2.2.2.2.2.2)) <|
                              .l (.inl (v.1, ((List.getD k.2.2.2.2.2.2.2.2.2.2 (Int.toNat v.2.2) (0 : Int)), (IntKind.wrap .i64 (v.2.2 + (1 : Int)))))))
                            (.l (.inl (v.1, (v.2.1, (IntKind.wrap .i64 (v.2.2 + (1 : Int)))))))))
                    (.l (.inl (v.1, (v.2.1, (IntKind.wrap .i64 (v.2.2 + (1 : Int))))))))))
        (.g (inR k.2.1 (List.length k.2.2.2.2.2.2.2.2.2.1)) <|
          .g (decide ((Int.toNat k.2.1) < List.length k.2.2.2.2.2.2.2.2.2.1)) <|
          .t (decide ((List.getD k.2.2.2.2.2.1 (Int.toNat v.2.2) (0 : Int)) ≤ (List.getD k.2.2.2.2.2.2.2.2.2.1 (Int.toNat k.2.1) (0 : Int))))
            (.t (decide (v.2.1 < (0 : Int)))
                (.g (inR v.2.2 (List.length k.2.2.2.2.2.2.2.2.2.2)) <|
                  .g (decide ((Int.toNat v.2.2) < List.length k.2.2.2.2.2.2.2.2.2.2)) <|
                  .l (.inl (v.1, ((List.getD k.2.2.2.2.2.2.2.2.2.2 (Int.toNat v.2.2) (0 : Int)), (IntKind.wrap .i64 (v.2.2 + (1 : Int)))))))
                (.g (inR v.2.2 (List.length k.2.2.2.2.2.2.2.2.2.2)) <|
                  .g (decide ((Int.toNat v.2.2) < List.length k.2.2.2.2.2.2.2.2.2.2)) <|
                  .t (decide ((List.getD k.2.2.2.2.2.2.2.2.2.2 (Int.toNat v.2.2) (0 : Int)) < v.2.1))
                    (.g (inR v.2.2 (List.length k.2.2.2.2.2.2.2.2.2.2)) <|
                      .g (decide ((Int.toNat v.2.2) < List.length k.2.2.2.2.2.2.2.2.2.2)) <|
                      .l (.inl (v.1, ((List.getD k.2.2.2.2.2.2.2.2.2.2 (Int.toNat v.2.2) (0 : Int)), (IntKind.wrap .i64 (v.2.2 + (1 : Int)))))))
                    (.l (.inl (v.1, (v.2.1, (IntKind.wrap .i64 (v.2.2 + (1 : Int)))))))))
            (.l (.inl (v.1, (v.2.1, (IntKind.wrap .i64 (v.2.2 + (1 : Int)))))))))
    (.l (.inr (v.1, v.2.1)))

noncomputable def L_im_AscentPrices_6 (k : (Bool) × ((Int) × ((List (List (Int))) × ((Int) × ((Int) × ((List (Int)) × ((Int) × ((List (Int)) × ((List (List (Int))) × ((List (Int)) × (List (Int)))))))))))) (v : (Int) × ((Int) × (Int))) : Option ((Int) × (Int)) := iter (fun v => (S_im_AscentPrices_6 k v).ev) v

noncomputable def DL_im_AscentPrices_6 : LD where
  head := { acts := [], S := { slots := [1, 4, 7, 8, 10, 11, 12, 35, 36, 37, 45, 46, 47], sh := (.cons (.box 1 0) (.cons (.arr 19) (.cons (.dat .bool) (.cons (.dat (.int .i64)) (.cons (.arr 2816) (.cons (.dat (.int .i64)) (.cons (.dat (.int .i64)) (.cons (.dat (.slice (.slice (.int .i64)))) (.cons (.dat (.int .i64)) (.cons (.dat (.int .i64)) (.cons (.dat (.slice (.int .i64))) (.cons (.dat (.int .i64)) (.cons (.dat (.int .i64)) .nil))))))))))))), obs := [(1, .cells (.cons (.dat (.slice (.int .i64))) (.cons (.dat (.slice (.slice (.int .i64)))) .nil))), (19, .arr 3 (.int .i64)), (2816, .arr 3 (.int .i64))] } }
  exits := [(6, { acts := [], S := { slots := [1, 4, 7, 8, 11, 12, 35, 36, 37], sh := (.cons (.box 1 0) (.cons (.arr 19) (.cons (.dat .bool) (.cons (.dat (.int .i64)) (.cons (.dat (.int .i64)) (.cons (.dat (.int .i64)) (.cons (.dat (.slice (.slice (.int .i64)))) (.cons (.dat (.int .i64)) (.cons (.dat (.int .i64)) .nil))))))))), obs := [(1, .cells (.cons (.dat (.slice (.int .i64))) (.cons (.dat (.slice (.slice (.int .i64)))) .nil))), (19, .arr 3 (.int .i64))] } })]
  rets := { acts := [], S := { slots := [], sh := .nil, obs := [] } }
  K := (Bool) × ((Int) × ((List (List (Int))) × ((Int) × ((Int) × ((List (Int)) × ((Int) × ((List (Int)) × ((List (List (Int))) × ((List (Int)) × (List (Int)))))))))))
  V := (Int) × ((Int) × (Int))
  R := (Int) × (Int)
  join := fun k v => (((), ((), (k.1, (k.2.1, ((), (v.1, (v.2.1, (k.2.2.1, (k.2.2.2.1, (k.2.2.2.2.1, (k.2.2.2.2.2.1, (k.2.2.2.2.2.2.1, (v.2.2, ()))))))))))))), ((k.2.2.2.2.2.2.2.1, (k.2.2.2.2.2.2.2.2.1, ())), (k.2.2.2.2.2.2.2.2.2.1, (k.2.2.2.2.2.2.2.2.2.2, ()))))
  sk := fun t => (t.1.2.2.1, (t.1.2.2.2.1, (t.1.2.2.2.2.2.2.2.1, (t.1.2.2.2.2.2.2.2.2.1, (t.1.2.2.2.2.2.2.2.2.2.1, (t.1.2.2.2.2.2.2.2.2.2.2.1, (t.1.2.2.2.2.2.2.2.2.2.2.2.1, (t.2.1.1, (t.2.1.2.1, (t.2.2.1, t.2.2.2.1))))))))))
  sv := fun t => (t.1.2.2.2.2.2.1, (t.1.2.2.2.2.2.2.1, t.1.2.2.2.2.2.2.2.2.2.2.2.2.1))
  step := S_im_AscentPrices_6
  leaf := fun k r => .l (.exit 6 (mkSt ({ slots := [1, 4, 7, 8, 11, 12, 35, 36, 37], sh := (.cons (.box 1 0) (.cons (.arr 19) (.cons (.dat .bool) (.cons (.dat (.int .i64)) (.cons (.dat (.int .i64)) (.cons (.dat (.int .i64)) (.cons (.dat (.slice (.slice (.int .i64)))) (.cons (.dat (.int .i64)) (.cons (.dat (.int .i64)) .nil))))))))), obs := [(1, .cells (.cons (.dat (.slice (.int .i64))) (.cons (.dat (.slice (.slice (.int .i64)))) .nil))), (19, .arr 3 (.int .i64))] }) (((), ((), (k.1, (k.2.1, (r.1, (r.2, (k.2.2.1, (k.2.2.2.1, (k.2.2.2.2.1, ()))))))))), ((k.2.2.2.2.2.2.2.1, (k.2.2.2.2.2.2.2.2.1, ())), (k.2.2.2.2.2.2.2.2.2.1, ())))))

noncomputable def S_im_AscentPrices_4 (k : (List (List (Int))) × ((Int) × ((List (Int)) × (List (List (Int)))))) (v : (Bool) × ((Int) × (List (Int)))) : Tr (((Bool) × ((Int) × (List (Int)))) ⊕ ((Bool) × (List (Int)))) :=
  .t (decide (v.2.1 < k.2.1))
    (.g (inR v.2.1 (List.length k.1)) <|
      .c (List (Int)) (F_im_Field_rests k.2.2.1 k.2.2.2 v.2.2) fun r24_ =>
      .c ((Int) × (Int)) (L_im_AscentPrices_6 (v.1, (v.2.1, (k.1, (k.2.1, (v.2.1, ((List.getD k.1 (Int.toNat v.2.1) ([] : List (Int))), (((List.length (List.getD k.1 (Int.toNat v.2.1) ([] : List (Int))) : Nat) : Int), (k.2.2.1, (k.2.2.2, (v.2.2, r24_)))))))))) ((-1 : Int), ((-1 : Int), (0 : Int)))) fun r49_ =>
      .g (inR v.2.1 (List.length v.2.2)) <|
      .g (decide ((Int.toNat v.2.1) < List.length v.2.2)) <|
      .t (decide ((0 : Int) ≤ r49_.1))
        (.t v.1
            (.g (inR v.2.1 (List.length v.2.2)) <|
              .g (decide ((Int.toNat v.2.1) < List.length v.2.2)) <|
              .l (.inl (true, ((IntKind.wrap .i64 (v.2.1 + (1 : Int))), (List.set v.2.2 (Int.toNat v.2.1) (if r49_.1 < (IntKind.wrap .i64 ((List.getD v.2.2 (Int.toNat v.2.1) (0 : Int)) + r49_.2)) then r49_.1 else (IntKind.wrap .i64 ((List.getD v.2.2 (Int.toNat v.2.1) (0 : Int)) + r49_.2))))))))
            (.g (inR v.2.1 (List.length v.2.2)) <|
              .g (decide ((Int.toNat v.2.1) < List.length v.2.2)) <|
              .g (inR v.2.1 (List.length v.2.2)) <|
              .g (decide ((Int.toNat v.2.1) < List.length v.2.2)) <|
              .l (.inl ((decide ((List.getD v.2.2 (Int.toNat v.2.1) (0 : Int)) < (if r49_.1 < (IntKind.wrap .i64 ((List.getD v.2.2 (Int.toNat v.2.1) (0 : Int)) + r49_.2)) then r49_.1 else (IntKind.wrap .i64 ((List.getD v.2.2 (Int.toNat v.2.1) (0 : Int)) + r49_.2))))), ((IntKind.wrap .i64 (v.2.1 + (1 : Int))), (List.set v.2.2 (Int.toNat v.2.1) (if r49_.1 < (IntKind.wrap .i64 ((List.getD v.2.2 (Int.toNat v.2.1) (0 : Int)) + r49_.2)) then r49_.1 else (IntKind.wrap .i64 ((List.getD v.2.2 (Int.toNat v.2.1) (0 : Int)) + r49_.2)))))))))
        (.t v.1
            (.g (inR v.2.1 (List.length v.2.2)) <|
              .g (decide ((Int.toNat v.2.1) < List.length v.2.2)) <|
              .l (.inl (true, ((IntKind.wrap .i64 (v.2.1 + (1 : Int))), (List.set v.2.2 (Int.toNat v.2.1) (IntKind.wrap .i64 ((List.getD v.2.2 (Int.toNat v.2.1) (0 : Int)) + r49_.2)))))))
            (.g (inR v.2.1 (List.length v.2.2)) <|
              .g (decide ((Int.toNat v.2.1) < List.length v.2.2)) <|
              .g (inR v.2.1 (List.length v.2.2)) <|
              .g (decide ((Int.toNat v.2.1) < List.length v.2.2)) <|
              .l (.inl ((decide ((List.getD v.2.2 (Int.toNat v.2.1) (0 : Int)) < (IntKind.wrap .i64 ((List.getD v.2.2 (Int.toNat v.2.1) (0 : Int)) + r49_.2)))), ((IntKind.wrap .i64 (v.2.1 + (1 : Int))), (List.set v.2.2 (Int.toNat v.2.1) (IntKind.wrap .i64 ((List.getD v.2.2 (Int.toNat v.2.1) (0 : Int)) + r49_.2)))))))))
    (.l (.inr (v.1, v.2.2)))

noncomputable def L_im_AscentPrices_4 (k : (List (List (Int))) × ((Int) × ((List (Int)) × (List (List (Int)))))) (v : (Bool) × ((Int) × (List (Int)))) : Option ((Bool) × (List (Int))) := iter (fun v => (S_im_AscentPrices_4 k v).ev) v

noncomputable def DL_im_AscentPrices_4 : LD where
  head := { acts := [], S := { slots := [1, 4, 7, 35, 36, 37], sh := (.cons (.box 1 0) (.cons (.arr 19) (.cons (.dat .bool) (.cons (.dat (.slice (.slice (.int .i64)))) (.cons (.dat (.int .i64)) (.cons (.dat (.int .i64)) .nil)))))), obs := [(1, .cells (.cons (.dat (.slice (.int .i64))) (.cons (.dat (.slice (.slice (.int .i64)))) .nil))), (19, .arr 3 (.int .i64))] } }
  exits := [(4, { acts := [], S := { slots := [1, 4, 7], sh := (.cons (.box 1 0) (.cons (.arr 19) (.cons (.dat .bool) .nil))), obs := [(1, .cells (.cons (.dat (.slice (.int .i64))) (.cons (.dat (.slice (.slice (.int .i64)))) .nil))), (19, .arr 3 (.int .i64))] } })]
  rets := { acts := [], S := { slots := [], sh := .nil, obs := [] } }
  K := (List (List (Int))) × ((Int) × ((List (Int)) × (List (List (Int)))))
  V := (Bool) × ((Int) × (List (Int)))
  R := (Bool) × (List (Int))
  join := fun k v => (((), ((), (v.1, (k.1, (k.2.1, (v.2.1, ())))))), ((k.2.2.1, (k.2.2.2, ())), (v.2.2, ())))
  sk := fun t => (t.1.2.2.2.1, (t.1.2.2.2.2.1, (t.2.1.1, t.2.1.2.1)))
  sv := fun t => (t.1.2.2.1, (t.1.2.2.2.2.2.1, t.2.2.1))
  step := S_im_AscentPrices_4
  leaf := fun k r => .l (.exit 4 (mkSt ({ slots := [1, 4, 7], sh := (.cons (.box 1 0) (.cons (.arr 19) (.cons (.dat .bool) .nil))), obs := [(1, .cells (.cons (.dat (.slice (.int .i64))) (.cons (.dat (.slice (.slice (.int .i64)))) .nil))), (19, .arr 3 (.int .i64))] }) (((), ((), (r.1, ()))), ((k.2.2.1, (k.2.2.2, ())), (r.2, ())))))

noncomputable def S_im_AscentPrices_2 (k : (List (Int)) × (List (List (Int)))) (v : (Bool) × (List (Int))) : Tr (((Bool) × (List (Int))) ⊕ (List (Int))) :=
  .t v.1
    (.c ((Bool) × (List (Int))) (L_im_AscentPrices_4 (k.2, (((List.length k.2 : Nat) : Int), (k.1, k.2))) (false, ((0 : Int), v.2))) fun r54_ =>
      .l (.inl (r54_.1, r54_.2)))
    (.l (.inr v.2))

noncomputable def L_im_AscentPrices_2 (k : (List (Int)) × (List (List (Int)))) (v : (Bool) × (List (Int))) : Option (List (Int)) := iter (fun v => (S_im_AscentPrices_2 k v).ev) v

noncomputable def DL_im_AscentPrices_2 : LD where
  head := { acts := [], S := { slots := [1, 4, 7], sh := (.cons (.box 1 0) (.cons (.arr 19) (.cons (.dat .bool) .nil))), obs := [(1, .cells (.cons (.dat (.slice (.int .i64))) (.cons (.dat (.slice (.slice (.int .i64)))) .nil))), (19, .arr 3 (.int .i64))] } }
  exits := [(2, { acts := [], S := { slots := [4], sh := (.cons (.arr 19) .nil), obs := [(19, .arr 3 (.int .i64))] } })]
  rets := { acts := [], S := { slots := [], sh := .nil, obs := [] } }
  K := (List (Int)) × (List (List (Int)))
  V := (Bool) × (List (Int))
  R := List (Int)
  join := fun k v => (((), ((), (v.1, ()))), ((k.1, (k.2, ())), (v.2, ())))
  sk := fun t => (t.2.1.1, t.2.1.2.1)
  sv := fun t => (t.1.2.2.1, t.2.2.1)
  step := S_im_AscentPrices_2
  leaf := fun _ r => .l (.exit 2 (mkSt ({ slots := [4], sh := (.cons (.arr 19) .nil), obs := [(19, .arr 3 (.int .i64))] }) (((), ()), (r, ()))))

noncomputable def T_im_AscentPrices (a1_ : List (Int)) (a2_ : List (List (Int))) : Tr ((Bool) × (List (Int))) :=
  .c (Bool) (F_im_IsField a1_ a2_) fun r1_ =>
  .t (!r1_)
    (.l (false, ([] : List (Int))))
    (.c (List (Int)) (L_im_AscentPrices_0 (a2_, (((List.length a2_ : Nat) : Int), (a1_, a2_))) ((0 : Int), ([] : List (Int)))) fun r12_ =>
      .c (List (Int)) (L_im_AscentPrices_2 (a1_, a2_) (true, r12_)) fun r56_ =>
      .l (true, r56_))

noncomputable def F_im_AscentPrices (a1_ : List (Int)) (a2_ : List (List (Int))) : Option ((Bool) × (List (Int))) := (T_im_AscentPrices a1_ a2_).ev

noncomputable def A_im_AscentPrices : Sh := (.cons (.agg (.cons (.dat (.slice (.int .i64))) (.cons (.dat (.slice (.slice (.int .i64)))) .nil))) .nil)

noncomputable def I_im_AscentPrices : List (Nat × OSh) := []

noncomputable def K_im_AscentPrices : RetK := { acts := [.own 2 0 3 (.int .i64), .ren 19 0], res := [.tmp 2, .tmp 3], sh := (.cons (.arr 0) (.cons (.dat .bool) .nil)), obs := [(0, .arr 3 (.int .i64))], pins := [] }

noncomputable def D_im_AscentPrices : FD where
  A := A_im_AscentPrices
  ins := I_im_AscentPrices
  lend := []
  R := (Bool) × (List (Int))
  F := fun x => F_im_AscentPrices x.1.1.1 x.1.1.2.1
  emb := fun r => ([.arr 0, .dat .bool r.1], [(0, .arr 3 (.int .i64) r.2)])

noncomputable def E_im_AscentPrices : Env := envOf [(79, D_im_IsField), (159, D_slices_Min_Sint_int), (160, D_im_Field_rests)]

noncomputable def Z_im_AscentPrices : Nat → Nat → List Nat := fun _ _ => []

noncomputable def O_im_AscentPrices : List (Nat × LD) := [(0, DL_im_AscentPrices_0), (6, DL_im_AscentPrices_6), (4, DL_im_AscentPrices_4), (2, DL_im_AscentPrices_2)]

noncomputable def C_im_AscentPrices : Code := (f107.body).getD .skip

/-! ### 49 loop.example/g01110/impl.AtlasGap -/

noncomputable def T_im_AtlasGap (a1_ : List (Int)) (a2_ : List (List (Int))) (a3_ : List (Int)) (a4_ : Int) : Tr ((Int) × (Bool)) :=
  .c ((Int) × (Bool)) (F_im_AtlasTotal a1_ a2_ a3_ a4_) fun r1_ =>
  .t (!r1_.2)
    (.l ((0 : Int), false))
    (.c ((Bool) × (List (Int))) (F_im_AscentPrices a1_ a2_) fun r2_ =>
      .c (Int) (F_im_sum r2_.2) fun r3_ =>
      .l ((IntKind.wrap .i64 (r1_.1 - r3_)), true))

noncomputable def F_im_AtlasGap (a1_ : List (Int)) (a2_ : List (List (Int))) (a3_ : List (Int)) (a4_ : Int) : Option ((Int) × (Bool)) := (T_im_AtlasGap a1_ a2_ a3_ a4_).ev

noncomputable def A_im_AtlasGap : Sh := (.cons (.agg (.cons (.dat (.slice (.int .i64))) (.cons (.dat (.slice (.slice (.int .i64)))) (.cons (.dat (.slice (.int .i64))) (.cons (.dat (.int .i64)) .nil))))) .nil)

noncomputable def I_im_AtlasGap : List (Nat × OSh) := []

noncomputable def K_im_AtlasGap : RetK := { acts := [], res := [.tmp 2, .tmp 3], sh := (.cons (.dat (.int .i64)) (.cons (.dat .bool) .nil)), obs := [], pins := [] }

noncomputable def D_im_AtlasGap : FD where
  A := A_im_AtlasGap
  ins := I_im_AtlasGap
  lend := []
  R := (Int) × (Bool)
  F := fun x => F_im_AtlasGap x.1.1.1 x.1.1.2.1 x.1.1.2.2.1 x.1.1.2.2.2.1
  emb := fun r => ([.dat (.int .i64) r.1, .dat .bool r.2], [])

noncomputable def E_im_AtlasGap : Env := envOf [(34, D_im_AtlasTotal), (107, D_im_AscentPrices), (108, D_im_sum)]

noncomputable def Z_im_AtlasGap : Nat → Nat → List Nat := fun _ _ => []

noncomputable def O_im_AtlasGap : List (Nat × LD) := []

noncomputable def C_im_AtlasGap : Code := (f49.body).getD .skip

/-! ### 38 loop.example/g01110/laws.eqIntS -/

noncomputable def S_lw_eqIntS_0 (k : (List (Int)) × (List (Int))) (v : Int) : Tr ((Int) ⊕ ((Unit) ⊕ (Unit))) :=
  .t (decide (v < ((List.length k.1 : Nat) : Int)))
    (.g (inR v (List.length k.1)) <|
      .g (inR v (List.length k.2)) <|
      .t ((List.getD k.1 (Int.toNat v) (0 : Int)) != (List.getD k.2 (Int.toNat v) (0 : Int)))
        (.l (.inr (.inr ())))
        (.l (.inl (IntKind.wrap .i64 (v + (1 : Int))))))
    (.l (.inr (.inl ())))

noncomputable def L_lw_eqIntS_0 (k : (List (Int)) × (List (Int))) (v : Int) : Option ((Unit) ⊕ (Unit)) := iter (fun v => (S_lw_eqIntS_0 k v).ev) v

noncomputable def DL_lw_eqIntS_0 : LD where
  head := { acts := [], S := { slots := [0, 1, 5], sh := (.cons (.dat (.slice (.int .i64))) (.cons (.dat (.slice (.int .i64))) (.cons (.dat (.int .i64)) .nil))), obs := [] } }
  exits := [(0, { acts := [], S := { slots := [], sh := .nil, obs := [] } })]
  rets := { acts := [], S := { slots := [4], sh := (.cons (.dat .bool) .nil), obs := [] } }
  K := (List (Int)) × (List (Int))
  V := Int
  R := (Unit) ⊕ (Unit)
  join := fun k v => ((k.1, (k.2, (v, ()))), ())
  sk := fun t => (t.1.1, t.1.2.1)
  sv := fun t => t.1.2.2.1
  step := S_lw_eqIntS_0
  leaf := fun _ r => .s (Unit) (Unit) r (fun _ => .l (.exit 0 (mkSt ({ slots := [], sh := .nil, obs := [] }) ((), ())))) (fun _ => .l (.ret (mkSt ({ slots := [4], sh := (.cons (.dat .bool) .nil), obs := [] }) ((false, ()), ()))))

noncomputable def T_lw_eqIntS (a1_ : List (Int)) (a2_ : List (Int)) : Tr (Bool) :=
  .t (((List.length a1_ : Nat) : Int) != ((List.length a2_ : Nat) : Int))
    (.l false)
    (.c ((Unit) ⊕ (Unit)) (L_lw_eqIntS_0 (a1_, a2_) (0 : Int)) fun r5_ =>
      .s (Unit) (Unit) r5_
        (fun _ => .l true)
        (fun _ => .l false))

noncomputable def F_lw_eqIntS (a1_ : List (Int)) (a2_ : List (Int)) : Option (Bool) := (T_lw_eqIntS a1_ a2_).ev

noncomputable def A_lw_eqIntS : Sh := (.cons (.dat (.slice (.int .i64))) (.cons (.dat (.slice (.int .i64))) .nil))

noncomputable def I_lw_eqIntS : List (Nat × OSh) := []

noncomputable def K_lw_eqIntS : RetK := { acts := [], res := [.tmp 4], sh := (.cons (.dat .bool) .nil), obs := [], pins := [] }

noncomputable def D_lw_eqIntS : FD where
  A := A_lw_eqIntS
  ins := I_lw_eqIntS
  lend := []
  R := Bool
  F := fun x => F_lw_eqIntS x.1.1 x.1.2.1
  emb := fun r => ([.dat .bool r], [])

noncomputable def E_lw_eqIntS : Env := envOf []

noncomputable def Z_lw_eqIntS : Nat → Nat → List Nat := fun _ _ => []

noncomputable def O_lw_eqIntS : List (Nat × LD) := [(0, DL_lw_eqIntS_0)]

noncomputable def C_lw_eqIntS : Code := (f38.body).getD .skip

/-! ### 19 loop.example/g01110/laws.eqIntSS -/

noncomputable def S_lw_eqIntSS_0 (k : (List (List (Int))) × (List (List (Int)))) (v : Int) : Tr ((Int) ⊕ ((Unit) ⊕ (Unit))) :=
  .t (decide (v < ((List.length k.1 : Nat) : Int)))
    (.g (inR v (List.length k.1)) <|
      .g (inR v (List.length k.2)) <|
      .c (Bool) (F_lw_eqIntS (List.getD k.1 (Int.toNat v) ([] : List (Int))) (List.getD k.2 (Int.toNat v) ([] : List (Int)))) fun r4_ =>
      .t (!r4_)
        (.l (.inr (.inr ())))
        (.l (.inl (IntKind.wrap .i64 (v + (1 : Int))))))
    (.l (.inr (.inl ())))

noncomputable def L_lw_eqIntSS_0 (k : (List (List (Int))) × (List (List (Int)))) (v : Int) : Option ((Unit) ⊕ (Unit)) := iter (fun v => (S_lw_eqIntSS_0 k v).ev) v

noncomputable def DL_lw_eqIntSS_0 : LD where
  head := { acts := [], S := { slots := [0, 1, 5], sh := (.cons (.dat (.slice (.slice (.int .i64)))) (.cons (.dat (.slice (.slice (.int .i64)))) (.cons (.dat (.int .i64)) .nil))), obs := [] } }
  exits := [(0, { acts := [], S := { slots := [], sh := .nil, obs := [] } })]
  rets := { acts := [], S := { slots := [4], sh := (.cons (.dat .bool) .nil), obs := [] } }
  K := (List (List (Int))) × (List (List (Int)))
  V := Int
  R := (Unit) ⊕ (Unit)
  join := fun k v => ((k.1, (k.2, (v, ()))), ())
  sk := fun t => (t.1.1, t.1.2.1)
  sv := fun t => t.1.2.2.1
  step := S_lw_eqIntSS_0
  leaf := fun _ r => .s (Unit) (Unit) r (fun _ => .l (.exit 0 (mkSt ({ slots := [], sh := .nil, obs := [] }) ((), ())))) (fun _ => .l (.ret (mkSt ({ slots := [4], sh := (.cons (.dat .bool) .nil), obs := [] }) ((false, ()), ()))))

noncomputable def T_lw_eqIntSS (a1_ : List (List (Int))) (a2_ : List (List (Int))) : Tr (Bool) :=
  .t (((List.length a1_ : Nat) : Int) != ((List.length a2_ : Nat) : Int))
    (.l false)
    (.c ((Unit) ⊕ (Unit)) (L_lw_eqIntSS_0 (a1_, a2_) (0 : Int)) fun r6_ =>
      .s (Unit) (Unit) r6_
        (fun _ => .l true)
        (fun _ => .l false))

noncomputable def F_lw_eqIntSS (a1_ : List (List (Int))) (a2_ : List (List (Int))) : Option (Bool) := (T_lw_eqIntSS a1_ a2_).ev

noncomputable def A_lw_eqIntSS : Sh := (.cons (.dat (.slice (.slice (.int .i64)))) (.cons (.dat (.slice (.slice (.int .i64)))) .nil))

noncomputable def I_lw_eqIntSS : List (Nat × OSh) := []

noncomputable def K_lw_eqIntSS : RetK := { acts := [], res := [.tmp 4], sh := (.cons (.dat .bool) .nil), obs := [], pins := [] }

noncomputable def D_lw_eqIntSS : FD where
  A := A_lw_eqIntSS
  ins := I_lw_eqIntSS
  lend := []
  R := Bool
  F := fun x => F_lw_eqIntSS x.1.1 x.1.2.1
  emb := fun r => ([.dat .bool r], [])

noncomputable def E_lw_eqIntSS : Env := envOf [(38, D_lw_eqIntS)]

noncomputable def Z_lw_eqIntSS : Nat → Nat → List Nat := fun _ _ => []

noncomputable def O_lw_eqIntSS : List (Nat × LD) := [(0, DL_lw_eqIntSS_0)]

noncomputable def C_lw_eqIntSS : Code := (f19.body).getD .skip

/-! ### 27 loop.example/g01110/laws.eqField -/

noncomputable def T_lw_eqField (a1_ : List (Int)) (a2_ : List (List (Int))) (a3_ : List (Int)) (a4_ : List (List (Int))) : Tr (Bool) :=
  .c (Bool) (F_lw_eqIntS a1_ a3_) fun r1_ =>
  .t (!r1_)
    (.l false)
    (.c (Bool) (F_lw_eqIntSS a2_ a4_) fun r2_ =>
      .t (!r2_)
        (.l false)
        (.l true))

noncomputable def F_lw_eqField (a1_ : List (Int)) (a2_ : List (List (Int))) (a3_ : List (Int)) (a4_ : List (List (Int))) : Option (Bool) := (T_lw_eqField a1_ a2_ a3_ a4_).ev

noncomputable def A_lw_eqField : Sh := (.cons (.agg (.cons (.dat (.slice (.int .i64))) (.cons (.dat (.slice (.slice (.int .i64)))) .nil))) (.cons (.agg (.cons (.dat (.slice (.int .i64))) (.cons (.dat (.slice (.slice (.int .i64)))) .nil))) .nil))

noncomputable def I_lw_eqField : List (Nat × OSh) := []

noncomputable def K_lw_eqField : RetK := { acts := [], res := [.tmp 4], sh := (.cons (.dat .bool) .nil), obs := [], pins := [] }

noncomputable def D_lw_eqField : FD where
  A := A_lw_eqField
  ins := I_lw_eqField
  lend := []
  R := Bool
  F := fun x => F_lw_eqField x.1.1.1 x.1.1.2.1 x.1.2.1.1 x.1.2.1.2.1
  emb := fun r => ([.dat .bool r], [])

noncomputable def E_lw_eqField : Env := envOf [(38, D_lw_eqIntS), (19, D_lw_eqIntSS)]

noncomputable def Z_lw_eqField : Nat → Nat → List Nat := fun _ _ => []

noncomputable def O_lw_eqField : List (Nat × LD) := []

noncomputable def C_lw_eqField : Code := (f27.body).getD .skip

/-! ### 26 loop.example/g01110/laws.eqAtlas -/

noncomputable def T_lw_eqAtlas (a1_ : List (Int)) (a2_ : List (List (Int))) (a3_ : List (Int)) (a4_ : Int) (a5_ : List (Int)) (a6_ : List (List (Int))) (a7_ : List (Int)) (a8_ : Int) : Tr (Bool) :=
  .c (Bool) (F_lw_eqField a1_ a2_ a5_ a6_) fun r1_ =>
  .t (!r1_)
    (.l false)
    (.c (Bool) (F_lw_eqIntS a3_ a7_) fun r2_ =>
      .t (!r2_)
        (.l false)
        (.t (a4_ != a8_)
            (.l false)
            (.l true)))

noncomputable def F_lw_eqAtlas (a1_ : List (Int)) (a2_ : List (List (Int))) (a3_ : List (Int)) (a4_ : Int) (a5_ : List (Int)) (a6_ : List (List (Int))) (a7_ : List (Int)) (a8_ : Int) : Option (Bool) := (T_lw_eqAtlas a1_ a2_ a3_ a4_ a5_ a6_ a7_ a8_).ev

noncomputable def A_lw_eqAtlas : Sh := (.cons (.agg (.cons (.dat (.slice (.int .i64))) (.cons (.dat (.slice (.slice (.int .i64)))) (.cons (.dat (.slice (.int .i64))) (.cons (.dat (.int .i64)) .nil))))) (.cons (.agg (.cons (.dat (.slice (.int .i64))) (.cons (.dat (.slice (.slice (.int .i64)))) (.cons (.dat (.slice (.int .i64))) (.cons (.dat (.int .i64)) .nil))))) .nil))

noncomputable def I_lw_eqAtlas : List (Nat × OSh) := []

noncomputable def K_lw_eqAtlas : RetK := { acts := [], res := [.tmp 4], sh := (.cons (.dat .bool) .nil), obs := [], pins := [] }

noncomputable def D_lw_eqAtlas : FD where
  A := A_lw_eqAtlas
  ins := I_lw_eqAtlas
  lend := []
  R := Bool
  F := fun x => F_lw_eqAtlas x.1.1.1 x.1.1.2.1 x.1.1.2.2.1 x.1.1.2.2.2.1 x.1.2.1.1 x.1.2.1.2.1 x.1.2.1.2.2.1 x.1.2.1.2.2.2.1
  emb := fun r => ([.dat .bool r], [])

noncomputable def E_lw_eqAtlas : Env := envOf [(27, D_lw_eqField), (38, D_lw_eqIntS)]

noncomputable def Z_lw_eqAtlas : Nat → Nat → List Nat := fun _ _ => []

noncomputable def O_lw_eqAtlas : List (Nat × LD) := []

noncomputable def C_lw_eqAtlas : Code := (f26.body).getD .skip

/-! ### 9 loop.example/g01110/laws.FnExactAtlasGap -/

noncomputable def T_lw_FnExactAtlasGap (a1_ : List (Int)) (a2_ : List (List (Int))) (a3_ : List (Int)) (a4_ : Int) : Tr (Bool) :=
  .c (Int) (F_lw_szAtlas a1_ a2_ a3_ a4_ (1048576 : Int)) fun r1_ =>
  .t (decide (r1_ < (0 : Int)))
    (.l true)
    (.c ((List (Int)) × ((List (List (Int))) × ((List (Int)) × (Int)))) (F_lw_toAtlas a1_ a2_ a3_ a4_) fun r2_ =>
      .c ((Int) × (Bool)) (F_sp_AtlasGap r2_.1 r2_.2.1 r2_.2.2.1 r2_.2.2.2) fun r3_ =>
      .c ((List (Int)) × ((List (List (Int))) × ((List (Int)) × (Int)))) (F_lw_toAtlas a1_ a2_ a3_ a4_) fun r4_ =>
      .c ((Int) × (Bool)) (F_im_AtlasGap r4_.1 r4_.2.1 r4_.2.2.1 r4_.2.2.2) fun r5_ =>
      .t (r5_.1 != r3_.1)
        (.l false)
        (.t (!(r5_.2 == r3_.2))
            (.l false)
            (.c ((List (Int)) × ((List (List (Int))) × ((List (Int)) × (Int)))) (F_lw_toAtlas a1_ a2_ a3_ a4_) fun r6_ =>
              .c (Bool) (F_lw_eqAtlas r4_.1 r4_.2.1 r4_.2.2.1 r4_.2.2.2 r6_.1 r6_.2.1 r6_.2.2.1 r6_.2.2.2) fun r7_ =>
              .t (!r7_)
                (.l false)
                (.l true))))

noncomputable def F_lw_FnExactAtlasGap (a1_ : List (Int)) (a2_ : List (List (Int))) (a3_ : List (Int)) (a4_ : Int) : Option (Bool) := (T_lw_FnExactAtlasGap a1_ a2_ a3_ a4_).ev

noncomputable def A_lw_FnExactAtlasGap : Sh := (.cons (.agg (.cons (.dat (.slice (.int .i64))) (.cons (.dat (.slice (.slice (.int .i64)))) (.cons (.dat (.slice (.int .i64))) (.cons (.dat (.int .i64)) .nil))))) .nil)

noncomputable def I_lw_FnExactAtlasGap : List (Nat × OSh) := []

noncomputable def K_lw_FnExactAtlasGap : RetK := { acts := [], res := [.tmp 2], sh := (.cons (.dat .bool) .nil), obs := [], pins := [] }

noncomputable def D_lw_FnExactAtlasGap : FD where
  A := A_lw_FnExactAtlasGap
  ins := I_lw_FnExactAtlasGap
  lend := []
  R := Bool
  F := fun x => F_lw_FnExactAtlasGap x.1.1.1 x.1.1.2.1 x.1.1.2.2.1 x.1.1.2.2.2.1
  emb := fun r => ([.dat .bool r], [])

noncomputable def E_lw_FnExactAtlasGap : Env := envOf [(31, D_lw_szAtlas), (33, D_lw_toAtlas), (48, D_sp_AtlasGap), (49, D_im_AtlasGap), (26, D_lw_eqAtlas)]

noncomputable def Z_lw_FnExactAtlasGap : Nat → Nat → List Nat := fun _ _ => []

noncomputable def O_lw_FnExactAtlasGap : List (Nat × LD) := []

noncomputable def C_lw_FnExactAtlasGap : Code := (f9.body).getD .skip
end Go.Proofs.Ythkafleokepjeaa
