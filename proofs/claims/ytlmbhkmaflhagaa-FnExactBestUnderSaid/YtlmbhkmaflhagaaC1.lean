import Derived.Test.YtlmbhkmaflhagaaC3
import Derived.Test.YtlmbhkmaflhagaaProg
namespace Go.Proofs.Ytlmbhkmaflhagaa
open Go.Proofs.Try
noncomputable def T_im_BestUnder (a1_ : List (Int)) (a2_ : List (List (Int))) (a3_ : Int) (a4_ : Int) (a5_ : Int) : Tr ((Bool) × (List (Int))) :=
  .c (Bool) (F_im_isFront a1_ a2_ a3_ a4_) fun r1_ =>
  .t (!r1_)
    (.l (false, ([] : List (Int))))
    (.c ((List Nat) × (List (List (Int)))) (F_im_sets ((List.length a1_ : Nat) : Int)) fun r2_ =>
      .c ((List Nat) × (List (List (Int)))) (F_slices_DeleteFunc_SSint_Sint (fun h3_ => Option.bind (F_im_BestUnder_1 h3_.1 a1_ a2_ a4_ a5_) fun y4_ => some y4_) r2_) fun r5_ =>
      .t (((List.length r5_.1 : Nat) : Int) == (0 : Int))
        (.l (false, ([] : List (Int))))
        (.c (List (Int)) (F_im_least (fun h6_ => Option.bind (F_im_BestUnder_2 h6_.1 a1_ a2_ a3_) fun y7_ => some y7_) r5_) fun r8_ =>
          .l (true, r8_)))
noncomputable def F_im_BestUnder (a1_ : List (Int)) (a2_ : List (List (Int))) (a3_ : Int) (a4_ : Int) (a5_ : Int) : Option ((Bool) × (List (Int))) := (T_im_BestUnder a1_ a2_ a3_ a4_ a5_).ev
noncomputable def A_im_BestUnder : Sh := (.cons (.agg (.cons (.dat (.slice (.int .i64))) (.cons (.dat (.slice (.slice (.int .i64)))) .nil))) (.cons (.dat (.int .i64)) (.cons (.dat (.int .i64)) (.cons (.dat (.int .i64)) .nil))))
noncomputable def I_im_BestUnder : List (Nat × OSh) := []
noncomputable def K_im_BestUnder : RetK := { acts := [.own 8 0 3 (.int .i64), .ren 1728 0], res := [.tmp 8, .tmp 9], sh := (.cons (.arr 0) (.cons (.dat .bool) .nil)), obs := [(0, .arr 3 (.int .i64))], pins := [] }
noncomputable def D_im_BestUnder : FD where
  A := A_im_BestUnder
  ins := I_im_BestUnder
  lend := []
  R := (Bool) × (List (Int))
  F := fun x => F_im_BestUnder x.1.1.1 x.1.1.2.1 x.1.2.1 x.1.2.2.1 x.1.2.2.2.1
  emb := fun r => ([.arr 0, .dat .bool r.1], [(0, .arr 3 (.int .i64) r.2)])
noncomputable def E_im_BestUnder : Env := envOf [(116, D_im_isFront), (118, D_im_sets), (117, D_slices_DeleteFunc_SSint_Sint), (83, D_im_least), (83, D_im_least), (121, D_im_BestUnder_2), (117, D_slices_DeleteFunc_SSint_Sint), (119, D_im_BestUnder_1)]
noncomputable def Z_im_BestUnder : Nat → Nat → List Nat := fun _ _ => []
noncomputable def O_im_BestUnder : List (Nat × LD) := []
noncomputable def C_im_BestUnder : Code := (f45.body).getD .skip
noncomputable def S_lw_eqIntS_0 (k : (List (Int)) × (List (Int))) (v : Int) : Tr ((Int) ⊕ ((Unit) ⊕ (Unit))) :=
  .t (decide (v < ((List.length k.1 : Nat) : Int)))
    (.g (inR v (List.length k.1)) <|
      .g (inR v (List.length k.2)) <|
      .t ((List.getD k.1 (Int.toNat v) (0 : Int)) != (List.getD k.2 (Int.toNat v) (0 : Int)))
        (.l (.inr (.inr ())))
        (.l (.inl (IntKind.wrap .i64 (v + (1 : Int))))))
    (.l (.inr (.inl ())))
noncomputable def L_lw_eqIntS_0 (k : (List (Int)) × (List (Int))) (v : Int) : Option ((Unit) ⊕ (Unit)) := iter (fun v => (S_lw_eqIntS_0 k v).ev) v
noncomputable def DL_lw_eqIntS_0 : LD where
  head := { acts := [], S := { slots := [0, 1, 5], sh := (.cons (.dat (.slice (.int .i64))) (.cons (.dat (.slice (.int .i64))) (.cons (.dat (.int .i64)) .nil))), obs := [] } }
  exits := [(0, { acts := [], S := { slots := [], sh := .nil, obs := [] } })]
  rets := { acts := [], S := { slots := [4], sh := (.cons (.dat .bool) .nil), obs := [] } }
  K := (List (Int)) × (List (Int))
  V := Int
  R := (Unit) ⊕ (Unit)
  join := fun k v => ((k.1, (k.2, (v, ()))), ())
  sk := fun t => (t.1.1, t.1.2.1)
  sv := fun t => t.1.2.2.1
  step := S_lw_eqIntS_0
  leaf := fun _ r => .s (Unit) (Unit) r (fun _ => .l (.exit 0 (mkSt ({ slots := [], sh := .nil, obs := [] }) ((), ())))) (fun _ => .l (.ret (mkSt ({ slots := [4], sh := (.cons (.dat .bool) .nil), obs := [] }) ((false, ()), ()))))
noncomputable def T_lw_eqIntS (a1_ : List (Int)) (a2_ : List (Int)) : Tr (Bool) :=
  .t (((List.length a1_ : Nat) : Int) != ((List.length a2_ : Nat) : Int))
    (.l false)
    (.c ((Unit) ⊕ (Unit)) (L_lw_eqIntS_0 (a1_, a2_) (0 : Int)) fun r5_ =>
      .s (Unit) (Unit) r5_
        (fun _ => .l true)
        (fun _ => .l false))
noncomputable def F_lw_eqIntS (a1_ : List (Int)) (a2_ : List (Int)) : Option (Bool) := (T_lw_eqIntS a1_ a2_).ev
noncomputable def A_lw_eqIntS : Sh := (.cons (.dat (.slice (.int .i64))) (.cons (.dat (.slice (.int .i64))) .nil))
noncomputable def I_lw_eqIntS : List (Nat × OSh) := []
noncomputable def K_lw_eqIntS : RetK := { acts := [], res := [.tmp 4], sh := (.cons (.dat .bool) .nil), obs := [], pins := [] }
noncomputable def D_lw_eqIntS : FD where
  A := A_lw_eqIntS
  ins := I_lw_eqIntS
  lend := []
  R := Bool
  F := fun x => F_lw_eqIntS x.1.1 x.1.2.1
  emb := fun r => ([.dat .bool r], [])
noncomputable def E_lw_eqIntS : Env := envOf []
noncomputable def Z_lw_eqIntS : Nat → Nat → List Nat := fun _ _ => []
noncomputable def O_lw_eqIntS : List (Nat × LD) := [(0, DL_lw_eqIntS_0)]
noncomputable def C_lw_eqIntS : Code := (f43.body).getD .skip
noncomputable def S_lw_eqIntSS_0 (k : (List (List (Int))) × (List (List (Int)))) (v : Int) : Tr ((Int) ⊕ ((Unit) ⊕ (Unit))) :=
  .t (decide (v < ((List.length k.1 : Nat) : Int)))
    (.g (inR v (List.length k.1)) <|
      .g (inR v (List.length k.2)) <|
      .c (Bool) (F_lw_eqIntS (List.getD k.1 (Int.toNat v) ([] : List (Int))) (List.getD k.2 (Int.toNat v) ([] : List (Int)))) fun r4_ =>
      .t (!r4_)
        (.l (.inr (.inr ())))
        (.l (.inl (IntKind.wrap .i64 (v + (1 : Int))))))
    (.l (.inr (.inl ())))
noncomputable def L_lw_eqIntSS_0 (k : (List (List (Int))) × (List (List (Int)))) (v : Int) : Option ((Unit) ⊕ (Unit)) := iter (fun v => (S_lw_eqIntSS_0 k v).ev) v
noncomputable def DL_lw_eqIntSS_0 : LD where
  head := { acts := [], S := { slots := [0, 1, 5], sh := (.cons (.dat (.slice (.slice (.int .i64)))) (.cons (.dat (.slice (.slice (.int .i64)))) (.cons (.dat (.int .i64)) .nil))), obs := [] } }
  exits := [(0, { acts := [], S := { slots := [], sh := .nil, obs := [] } })]
  rets := { acts := [], S := { slots := [4], sh := (.cons (.dat .bool) .nil), obs := [] } }
  K := (List (List (Int))) × (List (List (Int)))
  V := Int
  R := (Unit) ⊕ (Unit)
  join := fun k v => ((k.1, (k.2, (v, ()))), ())
  sk := fun t => (t.1.1, t.1.2.1)
  sv := fun t => t.1.2.2.1
  step := S_lw_eqIntSS_0
  leaf := fun _ r => .s (Unit) (Unit) r (fun _ => .l (.exit 0 (mkSt ({ slots := [], sh := .nil, obs := [] }) ((), ())))) (fun _ => .l (.ret (mkSt ({ slots := [4], sh := (.cons (.dat .bool) .nil), obs := [] }) ((false, ()), ()))))
noncomputable def T_lw_eqIntSS (a1_ : List (List (Int))) (a2_ : List (List (Int))) : Tr (Bool) :=
  .t (((List.length a1_ : Nat) : Int) != ((List.length a2_ : Nat) : Int))
    (.l false)
    (.c ((Unit) ⊕ (Unit)) (L_lw_eqIntSS_0 (a1_, a2_) (0 : Int)) fun r6_ =>
      .s (Unit) (Unit) r6_
        (fun _ => .l true)
        (fun _ => .l false))
noncomputable def F_lw_eqIntSS (a1_ : List (List (Int))) (a2_ : List (List (Int))) : Option (Bool) := (T_lw_eqIntSS a1_ a2_).ev
noncomputable def A_lw_eqIntSS : Sh := (.cons (.dat (.slice (.slice (.int .i64)))) (.cons (.dat (.slice (.slice (.int .i64)))) .nil))
noncomputable def I_lw_eqIntSS : List (Nat × OSh) := []
noncomputable def K_lw_eqIntSS : RetK := { acts := [], res := [.tmp 4], sh := (.cons (.dat .bool) .nil), obs := [], pins := [] }
noncomputable def D_lw_eqIntSS : FD where
  A := A_lw_eqIntSS
  ins := I_lw_eqIntSS
  lend := []
  R := Bool
  F := fun x => F_lw_eqIntSS x.1.1 x.1.2.1
  emb := fun r => ([.dat .bool r], [])
noncomputable def E_lw_eqIntSS : Env := envOf [(43, D_lw_eqIntS)]
noncomputable def Z_lw_eqIntSS : Nat → Nat → List Nat := fun _ _ => []
noncomputable def O_lw_eqIntSS : List (Nat × LD) := [(0, DL_lw_eqIntSS_0)]
noncomputable def C_lw_eqIntSS : Code := (f22.body).getD .skip
noncomputable def T_lw_eqField (a1_ : List (Int)) (a2_ : List (List (Int))) (a3_ : List (Int)) (a4_ : List (List (Int))) : Tr (Bool) :=
  .c (Bool) (F_lw_eqIntS a1_ a3_) fun r1_ =>
  .t (!r1_)
    (.l false)
    (.c (Bool) (F_lw_eqIntSS a2_ a4_) fun r2_ =>
      .t (!r2_)
        (.l false)
        (.l true))
noncomputable def F_lw_eqField (a1_ : List (Int)) (a2_ : List (List (Int))) (a3_ : List (Int)) (a4_ : List (List (Int))) : Option (Bool) := (T_lw_eqField a1_ a2_ a3_ a4_).ev
noncomputable def A_lw_eqField : Sh := (.cons (.agg (.cons (.dat (.slice (.int .i64))) (.cons (.dat (.slice (.slice (.int .i64)))) .nil))) (.cons (.agg (.cons (.dat (.slice (.int .i64))) (.cons (.dat (.slice (.slice (.int .i64)))) .nil))) .nil))
noncomputable def I_lw_eqField : List (Nat × OSh) := []
noncomputable def K_lw_eqField : RetK := { acts := [], res := [.tmp 4], sh := (.cons (.dat .bool) .nil), obs := [], pins := [] }
noncomputable def D_lw_eqField : FD where
  A := A_lw_eqField
  ins := I_lw_eqField
  lend := []
  R := Bool
  F := fun x => F_lw_eqField x.1.1.1 x.1.1.2.1 x.1.2.1.1 x.1.2.1.2.1
  emb := fun r => ([.dat .bool r], [])
noncomputable def E_lw_eqField : Env := envOf [(43, D_lw_eqIntS), (22, D_lw_eqIntSS)]
noncomputable def Z_lw_eqField : Nat → Nat → List Nat := fun _ _ => []
noncomputable def O_lw_eqField : List (Nat × LD) := []
noncomputable def C_lw_eqField : Code := (f42.body).getD .skip
noncomputable def S_lw_markIntS_0 (_k : Unit) (v : (Int) × ((Int) × (List (Int)))) : Tr (((Int) × ((Int) × (List (Int)))) ⊕ ((Int) × (List (Int)))) :=
  .t (decide (v.2.1 < ((List.length v.2.2 : Nat) : Int)))
    (.g (inR v.2.1 (List.length v.2.2)) <|
      .g (decide ((Int.toNat v.2.1) < List.length v.2.2)) <|
      .l (.inl ((IntKind.wrap .i64 (v.1 + (1 : Int))), ((IntKind.wrap .i64 (v.2.1 + (1 : Int))), (List.set v.2.2 (Int.toNat v.2.1) v.1)))))
    (.l (.inr (v.1, v.2.2)))
noncomputable def L_lw_markIntS_0 (k : Unit) (v : (Int) × ((Int) × (List (Int)))) : Option ((Int) × (List (Int))) := iter (fun v => (S_lw_markIntS_0 k v).ev) v
noncomputable def DL_lw_markIntS_0 : LD where
  head := { acts := [], S := { slots := [0, 1, 5], sh := (.cons (.arr 64) (.cons (.dat (.int .i64)) (.cons (.dat (.int .i64)) .nil))), obs := [(64, .arr 3 (.int .i64))] } }
  exits := [(0, { acts := [], S := { slots := [0, 1], sh := (.cons (.arr 64) (.cons (.dat (.int .i64)) .nil)), obs := [(64, .arr 3 (.int .i64))] } })]
  rets := { acts := [], S := { slots := [], sh := .nil, obs := [] } }
  K := Unit
  V := (Int) × ((Int) × (List (Int)))
  R := (Int) × (List (Int))
  join := fun _ v => (((), (v.1, (v.2.1, ()))), (v.2.2, ()))
  sk := fun _ => ()
  sv := fun t => (t.1.2.1, (t.1.2.2.1, t.2.1))
  step := S_lw_markIntS_0
  leaf := fun _ r => .l (.exit 0 (mkSt ({ slots := [0, 1], sh := (.cons (.arr 64) (.cons (.dat (.int .i64)) .nil)), obs := [(64, .arr 3 (.int .i64))] }) (((), (r.1, ())), (r.2, ()))))
noncomputable def T_lw_markIntS (a2_ : Int) (a1_ : List (Int)) : Tr ((Int) × (List (Int))) :=
  .c ((Int) × (List (Int))) (L_lw_markIntS_0 () (a2_, ((0 : Int), a1_))) fun r6_ =>
  .l (r6_.1, r6_.2)
noncomputable def F_lw_markIntS (a2_ : Int) (a1_ : List (Int)) : Option ((Int) × (List (Int))) := (T_lw_markIntS a2_ a1_).ev
noncomputable def A_lw_markIntS : Sh := (.cons (.arr 64) (.cons (.dat (.int .i64)) .nil))
noncomputable def I_lw_markIntS : List (Nat × OSh) := [(64, .arr 3 (.int .i64))]
noncomputable def K_lw_markIntS : RetK := { acts := [], res := [.tmp 4], sh := (.cons (.dat (.int .i64)) .nil), obs := [(64, .arr 3 (.int .i64))], pins := [(0, 0, 64)] }
noncomputable def D_lw_markIntS : FD where
  A := A_lw_markIntS
  ins := I_lw_markIntS
  lend := [.arg 0]
  R := (Int) × (List (Int))
  F := fun x => F_lw_markIntS x.1.2.1 x.2.1
  emb := fun r => ([.dat (.int .i64) r.1], [(64, .arr 3 (.int .i64) r.2)])
noncomputable def E_lw_markIntS : Env := envOf []
noncomputable def Z_lw_markIntS : Nat → Nat → List Nat := fun _ _ => []
noncomputable def O_lw_markIntS : List (Nat × LD) := [(0, DL_lw_markIntS_0)]
noncomputable def C_lw_markIntS : Code := (f47.body).getD .skip
noncomputable def S_lw_markIntSS_0 (_k : Unit) (v : (Int) × ((Int) × (List (List (Int))))) : Tr (((Int) × ((Int) × (List (List (Int))))) ⊕ ((Int) × (List (List (Int))))) :=
  .t (decide (v.2.1 < ((List.length v.2.2 : Nat) : Int)))
    (.g (inR v.2.1 (List.length v.2.2)) <|
      .g (decide ((Int.toNat v.2.1) < List.length v.2.2)) <|
      .c ((Int) × (List (Int))) (F_lw_markIntS v.1 (List.getD v.2.2 (Int.toNat v.2.1) ([] : List (Int)))) fun r4_ =>
      .l (.inl (r4_.1, ((IntKind.wrap .i64 (v.2.1 + (1 : Int))), (List.set v.2.2 (Int.toNat v.2.1) r4_.2)))))
    (.l (.inr (v.1, v.2.2)))
noncomputable def L_lw_markIntSS_0 (k : Unit) (v : (Int) × ((Int) × (List (List (Int))))) : Option ((Int) × (List (List (Int)))) := iter (fun v => (S_lw_markIntSS_0 k v).ev) v
noncomputable def DL_lw_markIntSS_0 : LD where
  head := { acts := [.fz 500015], S := { slots := [0, 1, 5], sh := (.cons (.arr 64) (.cons (.dat (.int .i64)) (.cons (.dat (.int .i64)) .nil))), obs := [(64, .rows 22 3 (.int .i64))] } }
  exits := [(0, { acts := [], S := { slots := [0, 1], sh := (.cons (.arr 64) (.cons (.dat (.int .i64)) .nil)), obs := [(64, .rows 22 3 (.int .i64))] } })]
  rets := { acts := [], S := { slots := [], sh := .nil, obs := [] } }
  K := Unit
  V := (Int) × ((Int) × (List (List (Int))))
  R := (Int) × (List (List (Int)))
  join := fun _ v => (((), (v.1, (v.2.1, ()))), (v.2.2, ()))
  sk := fun _ => ()
  sv := fun t => (t.1.2.1, (t.1.2.2.1, t.2.1))
  step := S_lw_markIntSS_0
  leaf := fun _ r => .l (.exit 0 (mkSt ({ slots := [0, 1], sh := (.cons (.arr 64) (.cons (.dat (.int .i64)) .nil)), obs := [(64, .rows 22 3 (.int .i64))] }) (((), (r.1, ())), (r.2, ()))))
noncomputable def T_lw_markIntSS (a2_ : Int) (a1_ : List (List (Int))) : Tr ((Int) × (List (List (Int)))) :=
  .c ((Int) × (List (List (Int)))) (L_lw_markIntSS_0 () (a2_, ((0 : Int), a1_))) fun r7_ =>
  .l (r7_.1, r7_.2)
noncomputable def F_lw_markIntSS (a2_ : Int) (a1_ : List (List (Int))) : Option ((Int) × (List (List (Int)))) := (T_lw_markIntSS a2_ a1_).ev
noncomputable def A_lw_markIntSS : Sh := (.cons (.arr 64) (.cons (.dat (.int .i64)) .nil))
noncomputable def I_lw_markIntSS : List (Nat × OSh) := [(64, .rows 22 3 (.int .i64))]
noncomputable def K_lw_markIntSS : RetK := { acts := [], res := [.tmp 4], sh := (.cons (.dat (.int .i64)) .nil), obs := [(64, .rows 22 3 (.int .i64))], pins := [(0, 0, 64)] }
noncomputable def D_lw_markIntSS : FD where
  A := A_lw_markIntSS
  ins := I_lw_markIntSS
  lend := [.arg 0]
  R := (Int) × (List (List (Int)))
  F := fun x => F_lw_markIntSS x.1.2.1 x.2.1
  emb := fun r => ([.dat (.int .i64) r.1], [(64, .rows 22 3 (.int .i64) r.2 none)])
noncomputable def E_lw_markIntSS : Env := envOf [(47, D_lw_markIntS)]
noncomputable def Z_lw_markIntSS : Nat → Nat → List Nat := fun r i => match look [(4, [(5, [2000015])])] r with
  | some l => (look l i).getD []
  | none => []
noncomputable def O_lw_markIntSS : List (Nat × LD) := [(0, DL_lw_markIntSS_0)]
noncomputable def C_lw_markIntSS : Code := (f28.body).getD .skip
noncomputable def T_lw_markField (a3_ : Int) (a1_ : List (Int)) (a2_ : List (List (Int))) : Tr ((Int) × ((List (Int)) × (List (List (Int))))) :=
  .c ((Int) × (List (Int))) (F_lw_markIntS a3_ a1_) fun r1_ =>
  .c ((Int) × (List (List (Int)))) (F_lw_markIntSS r1_.1 a2_) fun r2_ =>
  .l (r2_.1, (r1_.2, r2_.2))
noncomputable def F_lw_markField (a3_ : Int) (a1_ : List (Int)) (a2_ : List (List (Int))) : Option ((Int) × ((List (Int)) × (List (List (Int))))) := (T_lw_markField a3_ a1_ a2_).ev
noncomputable def A_lw_markField : Sh := (.cons (.agg (.cons (.arr 64) (.cons (.arr 65) .nil))) (.cons (.dat (.int .i64)) .nil))
noncomputable def I_lw_markField : List (Nat × OSh) := [(64, .arr 3 (.int .i64)), (65, .rows 22 3 (.int .i64))]
noncomputable def K_lw_markField : RetK := { acts := [], res := [.tmp 4], sh := (.cons (.dat (.int .i64)) .nil), obs := [(64, .arr 3 (.int .i64)), (65, .rows 22 3 (.int .i64))], pins := [(0, 1, 64), (0, 2, 65)] }
noncomputable def D_lw_markField : FD where
  A := A_lw_markField
  ins := I_lw_markField
  lend := [.comp 0 0, .comp 0 1]
  R := (Int) × ((List (Int)) × (List (List (Int))))
  F := fun x => F_lw_markField x.1.2.1 x.2.1 x.2.2.1
  emb := fun r => ([.dat (.int .i64) r.1], [(64, .arr 3 (.int .i64) r.2.1), (65, .rows 22 3 (.int .i64) r.2.2 none)])
noncomputable def E_lw_markField : Env := envOf [(47, D_lw_markIntS), (28, D_lw_markIntSS)]
noncomputable def Z_lw_markField : Nat → Nat → List Nat := fun _ _ => []
noncomputable def O_lw_markField : List (Nat × LD) := []
noncomputable def C_lw_markField : Code := (f46.body).getD .skip
noncomputable def S_lw_heldIntS_0 (k : List (Int)) (v : (Int) × (Int)) : Tr (((Int) × (Int)) ⊕ ((Int) ⊕ (Unit))) :=
  .t (decide (v.2 < ((List.length k : Nat) : Int)))
    (.g (inR v.2 (List.length k)) <|
      .t ((List.getD k (Int.toNat v.2) (0 : Int)) != v.1)
        (.l (.inr (.inr ())))
        (.l (.inl ((IntKind.wrap .i64 (v.1 + (1 : Int))), (IntKind.wrap .i64 (v.2 + (1 : Int)))))))
    (.l (.inr (.inl v.1)))
noncomputable def L_lw_heldIntS_0 (k : List (Int)) (v : (Int) × (Int)) : Option ((Int) ⊕ (Unit)) := iter (fun v => (S_lw_heldIntS_0 k v).ev) v
noncomputable def DL_lw_heldIntS_0 : LD where
  head := { acts := [], S := { slots := [0, 1, 5], sh := (.cons (.dat (.slice (.int .i64))) (.cons (.dat (.int .i64)) (.cons (.dat (.int .i64)) .nil))), obs := [] } }
  exits := [(0, { acts := [], S := { slots := [1], sh := (.cons (.dat (.int .i64)) .nil), obs := [] } })]
  rets := { acts := [], S := { slots := [4], sh := (.cons (.dat (.int .i64)) .nil), obs := [] } }
  K := List (Int)
  V := (Int) × (Int)
  R := (Int) ⊕ (Unit)
  join := fun k v => ((k, (v.1, (v.2, ()))), ())
  sk := fun t => t.1.1
  sv := fun t => (t.1.2.1, t.1.2.2.1)
  step := S_lw_heldIntS_0
  leaf := fun _ r => .s (Int) (Unit) r (fun a => .l (.exit 0 (mkSt ({ slots := [1], sh := (.cons (.dat (.int .i64)) .nil), obs := [] }) ((a, ()), ())))) (fun _ => .l (.ret (mkSt ({ slots := [4], sh := (.cons (.dat (.int .i64)) .nil), obs := [] }) (((-1 : Int), ()), ()))))
noncomputable def T_lw_heldIntS (a1_ : List (Int)) (a2_ : Int) : Tr (Int) :=
  .c ((Int) ⊕ (Unit)) (L_lw_heldIntS_0 a1_ (a2_, (0 : Int))) fun r6_ =>
  .s (Int) (Unit) r6_
    (fun r7_ => .l r7_)
    (fun _ => .l (-1 : Int))
noncomputable def F_lw_heldIntS (a1_ : List (Int)) (a2_ : Int) : Option (Int) := (T_lw_heldIntS a1_ a2_).ev
noncomputable def A_lw_heldIntS : Sh := (.cons (.dat (.slice (.int .i64))) (.cons (.dat (.int .i64)) .nil))
noncomputable def I_lw_heldIntS : List (Nat × OSh) := []
noncomputable def K_lw_heldIntS : RetK := { acts := [], res := [.tmp 4], sh := (.cons (.dat (.int .i64)) .nil), obs := [], pins := [] }
noncomputable def D_lw_heldIntS : FD where
  A := A_lw_heldIntS
  ins := I_lw_heldIntS
  lend := []
  R := Int
  F := fun x => F_lw_heldIntS x.1.1 x.1.2.1
  emb := fun r => ([.dat (.int .i64) r], [])
noncomputable def E_lw_heldIntS : Env := envOf []
noncomputable def Z_lw_heldIntS : Nat → Nat → List Nat := fun _ _ => []
noncomputable def O_lw_heldIntS : List (Nat × LD) := [(0, DL_lw_heldIntS_0)]
noncomputable def C_lw_heldIntS : Code := (f48.body).getD .skip
noncomputable def T_lw_FnExactBestUnder (a1_ : List (Int)) (a2_ : List (List (Int))) (a3_ : Int) (a4_ : Int) (a5_ : Int) : Tr (Bool) :=
  .c (Int) (F_lw_szField a1_ a2_ (1048576 : Int)) fun r1_ =>
  .t (decide (r1_ < (0 : Int)))
    (.l true)
    (.c ((List (Int)) × (List (List (Int)))) (F_lw_toField a1_ a2_) fun r2_ =>
      .c ((List (Int)) × (Bool)) (F_sp_BestUnder r2_.1 r2_.2 a3_ a4_ a5_) fun r3_ =>
      .c ((List (Int)) × (List (List (Int)))) (F_lw_toField a1_ a2_) fun r4_ =>
      .c ((Bool) × (List (Int))) (F_im_BestUnder r4_.1 r4_.2 a3_ a4_ a5_) fun r5_ =>
      .c (Bool) (F_lw_eqIntS r5_.2 r3_.1) fun r6_ =>
      .t (!r6_)
        (.l false)
        (.t (!(r5_.1 == r3_.2))
            (.l false)
            (.c ((List (Int)) × (List (List (Int)))) (F_lw_toField a1_ a2_) fun r7_ =>
              .c (Bool) (F_lw_eqField r4_.1 r4_.2 r7_.1 r7_.2) fun r8_ =>
              .t (!r8_)
                (.l false)
                (.c ((Int) × ((List (Int)) × (List (List (Int))))) (F_lw_markField (1 : Int) r4_.1 r4_.2) fun r9_ =>
                  .t (decide (r9_.1 < (0 : Int)))
                    (.l false)
                    (.c (Bool) (F_lw_eqIntS r5_.2 r3_.1) fun r10_ =>
                      .t (!r10_)
                        (.l false)
                        (.t (!(r5_.1 == r3_.2))
                            (.l false)
                            (.c ((Int) × (List (Int))) (F_lw_markIntS (1 : Int) r5_.2) fun r11_ =>
                              .c (Int) (F_lw_heldIntS r11_.2 (1 : Int)) fun r12_ =>
                              .t (decide (r12_ < (0 : Int)))
                                (.l false)
                                (.t (r12_ != r11_.1)
                                    (.l false)
                                    (.c ((List (Int)) × (List (List (Int)))) (F_lw_toField a1_ a2_) fun r13_ =>
                                      .c ((Bool) × (List (Int))) (F_im_BestUnder r13_.1 r13_.2 a3_ a4_ a5_) fun r14_ =>
                                      .c (Bool) (F_lw_eqIntS r14_.2 r3_.1) fun r15_ =>
                                      .t (!r15_)
                                        (.l false)
                                        (.t (!(r14_.1 == r3_.2))
                                            (.l false)
                                            (.c (Int) (F_lw_heldIntS r11_.2 (1 : Int)) fun r16_ =>
                                              .t (decide (r16_ < (0 : Int)))
                                                (.l false)
                                                (.t (r16_ != r11_.1)
                                                    (.l false)
                                                    (.l true)))))))))))))
noncomputable def F_lw_FnExactBestUnder (a1_ : List (Int)) (a2_ : List (List (Int))) (a3_ : Int) (a4_ : Int) (a5_ : Int) : Option (Bool) := (T_lw_FnExactBestUnder a1_ a2_ a3_ a4_ a5_).ev
noncomputable def A_lw_FnExactBestUnder : Sh := (.cons (.agg (.cons (.dat (.slice (.int .i64))) (.cons (.dat (.slice (.slice (.int .i64)))) .nil))) (.cons (.dat (.int .i64)) (.cons (.dat (.int .i64)) (.cons (.dat (.int .i64)) .nil))))
noncomputable def I_lw_FnExactBestUnder : List (Nat × OSh) := []
noncomputable def K_lw_FnExactBestUnder : RetK := { acts := [], res := [.tmp 8], sh := (.cons (.dat .bool) .nil), obs := [], pins := [] }
noncomputable def D_lw_FnExactBestUnder : FD where
  A := A_lw_FnExactBestUnder
  ins := I_lw_FnExactBestUnder
  lend := []
  R := Bool
  F := fun x => F_lw_FnExactBestUnder x.1.1.1 x.1.1.2.1 x.1.2.1 x.1.2.2.1 x.1.2.2.2.1
  emb := fun r => ([.dat .bool r], [])
noncomputable def E_lw_FnExactBestUnder : Env := envOf [(36, D_lw_szField), (38, D_lw_toField), (44, D_sp_BestUnder), (45, D_im_BestUnder), (43, D_lw_eqIntS), (42, D_lw_eqField), (46, D_lw_markField), (47, D_lw_markIntS), (48, D_lw_heldIntS)]
noncomputable def Z_lw_FnExactBestUnder : Nat → Nat → List Nat := fun r i => match look [(5, [(5, [27])])] r with
  | some l => (look l i).getD []
  | none => []
noncomputable def O_lw_FnExactBestUnder : List (Nat × LD) := []
noncomputable def C_lw_FnExactBestUnder : Code := (f11.body).getD .skip
end Go.Proofs.Ytlmbhkmaflhagaa
