import Derived.Test.YtlmbhkmaflhagaaC3
import Derived.Test.YtlmbhkmaflhagaaProg
namespace Go.Proofs.Ytlmbhkmaflhagaa
open Go.Proofs.Try

/-! ### 127 (loop.example/g01110/impl.Field).served -/

noncomputable def S_im_Field_served_0 (k : (List (Int)) × ((Int) × ((List (Int)) × (List (List (Int)))))) (v : (Int) × (List (Int))) : Tr (((Int) × (List (Int))) ⊕ (List (Int))) :=
  .t (decide (v.1 < k.2.1))
    (.c (Int) (F_im_Field_server k.2.2.1 k.2.2.2 v.1 k.1) fun r7_ =>
      .g (decide ((List.length v.2 + List.length ([r7_] : List (Int))) * 8 ≤ 140737488355328)) <|
      .l (.inl ((IntKind.wrap .i64 (v.1 + (1 : Int))), (v.2 ++ ([r7_] : List (Int))))))
    (.l (.inr v.2))

noncomputable def L_im_Field_served_0 (k : (List (Int)) × ((Int) × ((List (Int)) × (List (List (Int)))))) (v : (Int) × (List (Int))) : Option (List (Int)) := iter (fun v => (S_im_Field_served_0 k v).ev) v

noncomputable def DL_im_Field_served_0 : LD where
  head := { acts := [], S := { slots := [1, 2, 5, 10, 11], sh := (.cons (.dat (.slice (.int .i64))) (.cons (.box 2 0) (.cons (.arr 7) (.cons (.dat (.int .i64)) (.cons (.dat (.int .i64)) .nil))))), obs := [(2, .cells (.cons (.dat (.slice (.int .i64))) (.cons (.dat (.slice (.slice (.int .i64)))) .nil))), (7, .arr 3 (.int .i64))] } }
  exits := [(0, { acts := [], S := { slots := [5], sh := (.cons (.arr 7) .nil), obs := [(7, .arr 3 (.int .i64))] } })]
  rets := { acts := [], S := { slots := [], sh := .nil, obs := [] } }
  K := (List (Int)) × ((Int) × ((List (Int)) × (List (List (Int)))))
  V := (Int) × (List (Int))
  R := List (Int)
  join := fun k v => ((k.1, ((), ((), (k.2.1, (v.1, ()))))), ((k.2.2.1, (k.2.2.2, ())), (v.2, ())))
  sk := fun t => (t.1.1, (t.1.2.2.2.1, (t.2.1.1, t.2.1.2.1)))
  sv := fun t => (t.1.2.2.2.2.1, t.2.2.1)
  step := S_im_Field_served_0
  leaf := fun _ r => .l (.exit 0 (mkSt ({ slots := [5], sh := (.cons (.arr 7) .nil), obs := [(7, .arr 3 (.int .i64))] }) (((), ()), (r, ()))))

noncomputable def T_im_Field_served (a1_ : List (Int)) (a2_ : List (List (Int))) (a3_ : List (Int)) : Tr (List (Int)) :=
  .c (List (Int)) (L_im_Field_served_0 (a3_, (((List.length a2_ : Nat) : Int), (a1_, a2_))) ((0 : Int), ([] : List (Int)))) fun r9_ =>
  .l r9_

noncomputable def F_im_Field_served (a1_ : List (Int)) (a2_ : List (List (Int))) (a3_ : List (Int)) : Option (List (Int)) := (T_im_Field_served a1_ a2_ a3_).ev

noncomputable def A_im_Field_served : Sh := (.cons (.agg (.cons (.dat (.slice (.int .i64))) (.cons (.dat (.slice (.slice (.int .i64)))) .nil))) (.cons (.dat (.slice (.int .i64))) .nil))

noncomputable def I_im_Field_served : List (Nat × OSh) := []

noncomputable def K_im_Field_served : RetK := { acts := [.ren 7 0], res := [.tmp 4], sh := (.cons (.arr 0) .nil), obs := [(0, .arr 3 (.int .i64))], pins := [] }

noncomputable def D_im_Field_served : FD where
  A := A_im_Field_served
  ins := I_im_Field_served
  lend := []
  R := List (Int)
  F := fun x => F_im_Field_served x.1.1.1 x.1.1.2.1 x.1.2.1
  emb := fun r => ([.arr 0], [(0, .arr 3 (.int .i64) r)])

noncomputable def E_im_Field_served : Env := envOf [(172, D_im_Field_server)]

noncomputable def Z_im_Field_served : Nat → Nat → List Nat := fun _ _ => []

noncomputable def O_im_Field_served : List (Nat × LD) := [(0, DL_im_Field_served_0)]

noncomputable def C_im_Field_served : Code := (f127.body).getD .skip

/-! ### 156 (loop.example/g01110/impl.Field).lengths -/

noncomputable def S_im_Field_lengths_0 (k : (Int) × ((List (Int)) × ((List (List (Int))) × (List (Int))))) (v : (Int) × (List (Int))) : Tr (((Int) × (List (Int))) ⊕ (List (Int))) :=
  .t (decide (v.1 < k.1))
    (.g (inR v.1 (List.length k.2.2.2)) <|
      .g (decide ((Int.toNat v.1) < List.length k.2.2.2)) <|
      .g (inR v.1 (List.length k.2.2.1)) <|
      .g (inR (List.getD k.2.2.2 (Int.toNat v.1) (0 : Int)) (List.length (List.getD k.2.2.1 (Int.toNat v.1) ([] : List (Int))))) <|
      .g (decide ((List.length v.2 + List.length ([(List.getD (List.getD k.2.2.1 (Int.toNat v.1) ([] : List (Int))) (Int.toNat (List.getD k.2.2.2 (Int.toNat v.1) (0 : Int))) (0 : Int))] : List (Int))) * 8 ≤ 140737488355328)) <|
      .l (.inl ((IntKind.wrap .i64 (v.1 + (1 : Int))), (v.2 ++ ([(List.getD (List.getD k.2.2.1 (Int.toNat v.1) ([] : List (Int))) (Int.toNat (List.getD k.2.2.2 (Int.toNat v.1) (0 : Int))) (0 : Int))] : List (Int))))))
    (.l (.inr v.2))

noncomputable def L_im_Field_lengths_0 (k : (Int) × ((List (Int)) × ((List (List (Int))) × (List (Int))))) (v : (Int) × (List (Int))) : Option (List (Int)) := iter (fun v => (S_im_Field_lengths_0 k v).ev) v

noncomputable def DL_im_Field_lengths_0 : LD where
  head := { acts := [], S := { slots := [2, 5, 11, 12, 13], sh := (.cons (.box 2 0) (.cons (.arr 8) (.cons (.arr 704) (.cons (.dat (.int .i64)) (.cons (.dat (.int .i64)) .nil))))), obs := [(2, .cells (.cons (.dat (.slice (.int .i64))) (.cons (.dat (.slice (.slice (.int .i64)))) .nil))), (8, .arr 3 (.int .i64)), (704, .arr 3 (.int .i64))] } }
  exits := [(0, { acts := [], S := { slots := [5], sh := (.cons (.arr 8) .nil), obs := [(8, .arr 3 (.int .i64))] } })]
  rets := { acts := [], S := { slots := [], sh := .nil, obs := [] } }
  K := (Int) × ((List (Int)) × ((List (List (Int))) × (List (Int))))
  V := (Int) × (List (Int))
  R := List (Int)
  join := fun k v => (((), ((), ((), (k.1, (v.1, ()))))), ((k.2.1, (k.2.2.1, ())), (v.2, (k.2.2.2, ()))))
  sk := fun t => (t.1.2.2.2.1, (t.2.1.1, (t.2.1.2.1, t.2.2.2.1)))
  sv := fun t => (t.1.2.2.2.2.1, t.2.2.1)
  step := S_im_Field_lengths_0
  leaf := fun _ r => .l (.exit 0 (mkSt ({ slots := [5], sh := (.cons (.arr 8) .nil), obs := [(8, .arr 3 (.int .i64))] }) (((), ()), (r, ()))))

noncomputable def T_im_Field_lengths (a1_ : List (Int)) (a2_ : List (List (Int))) (a3_ : List (Int)) : Tr (List (Int)) :=
  .c (List (Int)) (F_im_Field_served a1_ a2_ a3_) fun r1_ =>
  .c (List (Int)) (L_im_Field_lengths_0 (((List.length r1_ : Nat) : Int), (a1_, (a2_, r1_))) ((0 : Int), ([] : List (Int)))) fun r9_ =>
  .l r9_

noncomputable def F_im_Field_lengths (a1_ : List (Int)) (a2_ : List (List (Int))) (a3_ : List (Int)) : Option (List (Int)) := (T_im_Field_lengths a1_ a2_ a3_).ev

noncomputable def A_im_Field_lengths : Sh := (.cons (.agg (.cons (.dat (.slice (.int .i64))) (.cons (.dat (.slice (.slice (.int .i64)))) .nil))) (.cons (.dat (.slice (.int .i64))) .nil))

noncomputable def I_im_Field_lengths : List (Nat × OSh) := []

noncomputable def K_im_Field_lengths : RetK := { acts := [.ren 8 0], res := [.tmp 4], sh := (.cons (.arr 0) .nil), obs := [(0, .arr 3 (.int .i64))], pins := [] }

noncomputable def D_im_Field_lengths : FD where
  A := A_im_Field_lengths
  ins := I_im_Field_lengths
  lend := []
  R := List (Int)
  F := fun x => F_im_Field_lengths x.1.1.1 x.1.1.2.1 x.1.2.1
  emb := fun r => ([.arr 0], [(0, .arr 3 (.int .i64) r)])

noncomputable def E_im_Field_lengths : Env := envOf [(127, D_im_Field_served)]

noncomputable def Z_im_Field_lengths : Nat → Nat → List Nat := fun _ _ => []

noncomputable def O_im_Field_lengths : List (Nat × LD) := [(0, DL_im_Field_lengths_0)]

noncomputable def C_im_Field_lengths : Code := (f156.body).getD .skip

/-! ### 98 loop.example/g01110/impl.sum -/

noncomputable def S_im_sum_0 (k : (List (Int)) × (Int)) (v : (Int) × (Int)) : Tr (((Int) × (Int)) ⊕ (Int)) :=
  .t (decide (v.2 < k.2))
    (.g (inR v.2 (List.length k.1)) <|
      .l (.inl ((IntKind.wrap .i64 (v.1 + (List.getD k.1 (Int.toNat v.2) (0 : Int)))), (IntKind.wrap .i64 (v.2 + (1 : Int))))))
    (.l (.inr v.1))

noncomputable def L_im_sum_0 (k : (List (Int)) × (Int)) (v : (Int) × (Int)) : Option (Int) := iter (fun v => (S_im_sum_0 k v).ev) v

noncomputable def DL_im_sum_0 : LD where
  head := { acts := [], S := { slots := [3, 6, 7, 8], sh := (.cons (.dat (.int .i64)) (.cons (.dat (.slice (.int .i64))) (.cons (.dat (.int .i64)) (.cons (.dat (.int .i64)) .nil)))), obs := [] } }
  exits := [(0, { acts := [], S := { slots := [3], sh := (.cons (.dat (.int .i64)) .nil), obs := [] } })]
  rets := { acts := [], S := { slots := [], sh := .nil, obs := [] } }
  K := (List (Int)) × (Int)
  V := (Int) × (Int)
  R := Int
  join := fun k v => ((v.1, (k.1, (k.2, (v.2, ())))), ())
  sk := fun t => (t.1.2.1, t.1.2.2.1)
  sv := fun t => (t.1.1, t.1.2.2.2.1)
  step := S_im_sum_0
  leaf := fun _ r => .l (.exit 0 (mkSt ({ slots := [3], sh := (.cons (.dat (.int .i64)) .nil), obs := [] }) ((r, ()), ())))

noncomputable def T_im_sum (a1_ : List (Int)) : Tr (Int) :=
  .c (Int) (L_im_sum_0 (a1_, ((List.length a1_ : Nat) : Int)) ((0 : Int), (0 : Int))) fun r6_ =>
  .l r6_

noncomputable def F_im_sum (a1_ : List (Int)) : Option (Int) := (T_im_sum a1_).ev

noncomputable def A_im_sum : Sh := (.cons (.dat (.slice (.int .i64))) .nil)

noncomputable def I_im_sum : List (Nat × OSh) := []

noncomputable def K_im_sum : RetK := { acts := [], res := [.tmp 2], sh := (.cons (.dat (.int .i64)) .nil), obs := [], pins := [] }

noncomputable def D_im_sum : FD where
  A := A_im_sum
  ins := I_im_sum
  lend := []
  R := Int
  F := fun x => F_im_sum x.1.1
  emb := fun r => ([.dat (.int .i64) r], [])

noncomputable def E_im_sum : Env := envOf []

noncomputable def Z_im_sum : Nat → Nat → List Nat := fun _ _ => []

noncomputable def O_im_sum : List (Nat × LD) := [(0, DL_im_sum_0)]

noncomputable def C_im_sum : Code := (f98.body).getD .skip

/-! ### 110 (loop.example/g01110/impl.Field).service -/

noncomputable def T_im_Field_service (a1_ : List (Int)) (a2_ : List (List (Int))) (a3_ : List (Int)) : Tr (Int) :=
  .c (List (Int)) (F_im_Field_lengths a1_ a2_ a3_) fun r1_ =>
  .c (Int) (F_im_sum r1_) fun r2_ =>
  .l r2_

noncomputable def F_im_Field_service (a1_ : List (Int)) (a2_ : List (List (Int))) (a3_ : List (Int)) : Option (Int) := (T_im_Field_service a1_ a2_ a3_).ev

noncomputable def A_im_Field_service : Sh := (.cons (.agg (.cons (.dat (.slice (.int .i64))) (.cons (.dat (.slice (.slice (.int .i64)))) .nil))) (.cons (.dat (.slice (.int .i64))) .nil))

noncomputable def I_im_Field_service : List (Nat × OSh) := []

noncomputable def K_im_Field_service : RetK := { acts := [], res := [.tmp 4], sh := (.cons (.dat (.int .i64)) .nil), obs := [], pins := [] }

noncomputable def D_im_Field_service : FD where
  A := A_im_Field_service
  ins := I_im_Field_service
  lend := []
  R := Int
  F := fun x => F_im_Field_service x.1.1.1 x.1.1.2.1 x.1.2.1
  emb := fun r => ([.dat (.int .i64) r], [])

noncomputable def E_im_Field_service : Env := envOf [(156, D_im_Field_lengths), (98, D_im_sum)]

noncomputable def Z_im_Field_service : Nat → Nat → List Nat := fun _ _ => []

noncomputable def O_im_Field_service : List (Nat × LD) := []

noncomputable def C_im_Field_service : Code := (f110.body).getD .skip

/-! ### 86 (loop.example/g01110/impl.Season).move -/

noncomputable def S_im_Season_move_0 (k : (Int) × ((List (Int)) × ((Int) × ((Int) × ((Int) × ((List (Int)) × ((List (Int)) × ((List (Int)) × (List (List (List (Int)))))))))))) (v : (Int) × (Int)) : Tr (((Int) × (Int)) ⊕ (Int)) :=
  .t (decide (v.2 < k.2.2.2.2.1))
    (.c (Bool) (F_im_bag_has k.2.2.2.1 v.2) fun r14_ =>
      .t r14_
        (.c (Bool) (F_im_bag_has k.2.2.1 v.2) fun r15_ =>
          .t (!r15_)
            (.g (inR v.2 (List.length k.2.2.2.2.2.1)) <|
              .c (Bool) (F_im_bag_has k.2.2.2.1 v.2) fun r16_ =>
              .t r16_
                (.g (inR v.2 (List.length k.2.2.2.2.2.2.2.1)) <|
                  .l (.inl ((IntKind.wrap .i64 ((IntKind.wrap .i64 (v.1 + (List.getD k.2.2.2.2.2.1 (Int.toNat v.2) (0 : Int)))) + (List.getD k.2.2.2.2.2.2.2.1 (Int.toNat v.2) (0 : Int)))), (IntKind.wrap .i64 (v.2 + (1 : Int))))))
                (.l (.inl ((IntKind.wrap .i64 (v.1 + (List.getD k.2.2.2.2.2.1 (Int.toNat v.2) (0 : Int)))), (IntKind.wrap .i64 (v.2 + (1 : Int)))))))
            (.c (Bool) (F_im_bag_has k.2.2.1 v.2) fun r17_ =>
              .t r17_
                (.c (Bool) (F_im_bag_has k.2.2.2.1 v.2) fun r18_ =>
                  .t (!r18_)
                    (.g (inR v.2 (List.length k.2.2.2.2.2.2.1)) <|
                      .c (Bool) (F_im_bag_has k.2.2.2.1 v.2) fun r19_ =>
                      .t r19_
                        (.g (inR v.2 (List.length k.2.2.2.2.2.2.2.1)) <|
                          .l (.inl ((IntKind.wrap .i64 ((IntKind.wrap .i64 (v.1 + (List.getD k.2.2.2.2.2.2.1 (Int.toNat v.2) (0 : Int)))) + (List.getD k.2.2.2.2.2.2.2.1 (Int.toNat v.2) (0 : Int)))), (IntKind.wrap .i64 (v.2 + (1 : Int))))))
                        (.l (.inl ((IntKind.wrap .i64 (v.1 + (List.getD k.2.2.2.2.2.2.1 (Int.toNat v.2) (0 : Int)))), (IntKind.wrap .i64 (v.2 + (1 : Int)))))))
                    (.c (Bool) (F_im_bag_has k.2.2.2.1 v.2) fun r20_ =>
                      .t r20_
                        (.g (inR v.2 (List.length k.2.2.2.2.2.2.2.1)) <|
                          .l (.inl ((IntKind.wrap .i64 (v.1 + (List.getD k.2.2.2.2.2.2.2.1 (Int.toNat v.2) (0 : Int)))), (IntKind.wrap .i64 (v.2 + (1 : Int))))))
                        (.l (.inl (v.1, (IntKind.wrap .i64 (v.2 + (1 : Int))))))))
                (.c (Bool) (F_im_bag_has k.2.2.2.1 v.2) fun r21_ =>
                  .t r21_
                    (.g (inR v.2 (List.length k.2.2.2.2.2.2.2.1)) <|
                      .l (.inl ((IntKind.wrap .i64 (v.1 + (List.getD k.2.2.2.2.2.2.2.1 (Int.toNat v.2) (0 : Int)))), (IntKind.wrap .i64 (v.2 + (1 : Int))))))
                    (.l (.inl (v.1, (IntKind.wrap .i64 (v.2 + (1 : Int)))))))))
        (.c (Bool) (F_im_bag_has k.2.2.1 v.2) fun r22_ =>
          .t r22_
            (.c (Bool) (F_im_bag_has k.2.2.2.1 v.2) fun r23_ =>
              .t (!r23_)
                (.g (inR v.2 (List.length k.2.2.2.2.2.2.1)) <|
                  .c (Bool) (F_im_bag_has k.2.2.2.1 v.2) fun r24_ =>
                  .t r24_
                    (.g (inR v.2 (List.length k.2.2.2.2.2.2.2.1)) <|
                      .l (.inl ((IntKind.wrap .i64 ((IntKind.wrap .i64 (v.1 + (List.getD k.2.2.2.2.2.2.1 (Int.toNat v.2) (0 : Int)))) + (List.getD k.2.2.2.2.2.2.2.1 (Int.toNat v.2) (0 : Int)))), (IntKind.wrap .i64 (v.2 + (1 : Int))))))
                    (.l (.inl ((IntKind.wrap .i64 (v.1 + (List.getD k.2.2.2.2.2.2.1 (Int.toNat v.2) (0 : Int)))), (IntKind.wrap .i64 (v.2 + (1 : Int)))))))
                (.c (Bool) (F_im_bag_has k.2.2.2.1 v.2) fun r25_ =>
                  .t r25_
                    (.g (inR v.2 (List.length k.2.2.2.2.2.2.2.1)) <|
                      .l (.inl ((IntKind.wrap .i64 (v.1 + (List.getD k.2.2.2.2.2.2.2.1 (Int.toNat v.2) (0 : Int)))), (IntKind.wrap .i64 (v.2 + (1 : Int))))))
                    (.l (.inl (v.1, (IntKind.wrap .i64 (v.2 + (1 : Int))))))))
            (.c (Bool) (F_im_bag_has k.2.2.2.1 v.2) fun r26_ =>
              .t r26_
                (.g (inR v.2 (List.length k.2.2.2.2.2.2.2.1)) <|
                  .l (.inl ((IntKind.wrap .i64 (v.1 + (List.getD k.2.2.2.2.2.2.2.1 (Int.toNat v.2) (0 : Int)))), (IntKind.wrap .i64 (v.2 + (1 : Int))))))
                (.l (.inl (v.1, (IntKind.wrap .i64 (v.2 + (1 : Int)))))))))
    (.l (.inr v.1))

noncomputable def L_im_Season_move_0 (k : (Int) × ((List (Int)) × ((Int) × ((Int) × ((Int) × ((List (Int)) × ((List (Int)) × ((List (Int)) × (List (List (List (Int)))))))))))) (v : (Int) × (Int)) : Option (Int) := iter (fun v => (S_im_Season_move_0 k v).ev) v

noncomputable def DL_im_Season_move_0 : LD where
  head := { acts := [], S := { slots := [1, 3, 4, 9, 10, 11, 19, 20], sh := (.cons (.dat (.int .i64)) (.cons (.dat (.slice (.int .i64))) (.cons (.box 4 0) (.cons (.dat (.int .u64)) (.cons (.dat (.int .u64)) (.cons (.dat (.int .i64)) (.cons (.dat (.int .i64)) (.cons (.dat (.int .i64)) .nil)))))))), obs := [(4, .cells (.cons (.dat (.slice (.int .i64))) (.cons (.dat (.slice (.int .i64))) (.cons (.dat (.slice (.int .i64))) (.cons (.dat (.slice (.slice (.slice (.int .i64))))) .nil)))))] } }
  exits := [(0, { acts := [], S := { slots := [1, 3, 4, 11], sh := (.cons (.dat (.int .i64)) (.cons (.dat (.slice (.int .i64))) (.cons (.box 4 0) (.cons (.dat (.int .i64)) .nil)))), obs := [(4, .cells (.cons (.dat (.slice (.int .i64))) (.cons (.dat (.slice (.int .i64))) (.cons (.dat (.slice (.int .i64))) (.cons (.dat (.slice (.slice (.slice (.int .i64))))) .nil)))))] } })]
  rets := { acts := [], S := { slots := [], sh := .nil, obs := [] } }
  K := (Int) × ((List (Int)) × ((Int) × ((Int) × ((Int) × ((List (Int)) × ((List (Int)) × ((List (Int)) × (List (List (List (Int)))))))))))
  V := (Int) × (Int)
  R := Int
  join := fun k v => ((k.1, (k.2.1, ((), (k.2.2.1, (k.2.2.2.1, (v.1, (k.2.2.2.2.1, (v.2, ())))))))), ((k.2.2.2.2.2.1, (k.2.2.2.2.2.2.1, (k.2.2.2.2.2.2.2.1, (k.2.2.2.2.2.2.2.2, ())))), ()))
  sk := fun t => (t.1.1, (t.1.2.1, (t.1.2.2.2.1, (t.1.2.2.2.2.1, (t.1.2.2.2.2.2.2.1, (t.2.1.1, (t.2.1.2.1, (t.2.1.2.2.1, t.2.1.2.2.2.1))))))))
  sv := fun t => (t.1.2.2.2.2.2.1, t.1.2.2.2.2.2.2.2.1)
  step := S_im_Season_move_0
  leaf := fun k r => .l (.exit 0 (mkSt ({ slots := [1, 3, 4, 11], sh := (.cons (.dat (.int .i64)) (.cons (.dat (.slice (.int .i64))) (.cons (.box 4 0) (.cons (.dat (.int .i64)) .nil)))), obs := [(4, .cells (.cons (.dat (.slice (.int .i64))) (.cons (.dat (.slice (.int .i64))) (.cons (.dat (.slice (.int .i64))) (.cons (.dat (.slice (.slice (.slice (.int .i64))))) .nil)))))] }) ((k.1, (k.2.1, ((), (r, ())))), ((k.2.2.2.2.2.1, (k.2.2.2.2.2.2.1, (k.2.2.2.2.2.2.2.1, (k.2.2.2.2.2.2.2.2, ())))), ()))))

noncomputable def T_im_Season_move (a1_ : List (Int)) (a2_ : List (Int)) (a3_ : List (Int)) (a4_ : List (List (List (Int)))) (a5_ : Int) (a6_ : List (Int)) (a7_ : List (Int)) : Tr (Int) :=
  .c (Int) (F_im_bagOf a6_) fun r1_ =>
  .c (Int) (F_im_bagOf a7_) fun r2_ =>
  .c (Int) (L_im_Season_move_0 (a5_, (a7_, (r1_, (r2_, (((List.length a1_ : Nat) : Int), (a1_, (a2_, (a3_, a4_)))))))) ((0 : Int), (0 : Int))) fun r34_ =>
  .t (decide ((0 : Int) < ((List.length a7_ : Nat) : Int)))
    (.g (inR a5_ (List.length a4_)) <|
      .c (Int) (F_im_Field_service a1_ (List.getD a4_ (Int.toNat a5_) ([] : List (List (Int)))) a7_) fun r35_ =>
      .l (IntKind.wrap .i64 (r34_ + r35_)))
    (.l r34_)

noncomputable def F_im_Season_move (a1_ : List (Int)) (a2_ : List (Int)) (a3_ : List (Int)) (a4_ : List (List (List (Int)))) (a5_ : Int) (a6_ : List (Int)) (a7_ : List (Int)) : Option (Int) := (T_im_Season_move a1_ a2_ a3_ a4_ a5_ a6_ a7_).ev

noncomputable def A_im_Season_move : Sh := (.cons (.agg (.cons (.dat (.slice (.int .i64))) (.cons (.dat (.slice (.int .i64))) (.cons (.dat (.slice (.int .i64))) (.cons (.dat (.slice (.slice (.slice (.int .i64))))) .nil))))) (.cons (.dat (.int .i64)) (.cons (.dat (.slice (.int .i64))) (.cons (.dat (.slice (.int .i64))) .nil))))

noncomputable def I_im_Season_move : List (Nat × OSh) := []

noncomputable def K_im_Season_move : RetK := { acts := [], res := [.tmp 8], sh := (.cons (.dat (.int .i64)) .nil), obs := [], pins := [] }

noncomputable def D_im_Season_move : FD where
  A := A_im_Season_move
  ins := I_im_Season_move
  lend := []
  R := Int
  F := fun x => F_im_Season_move x.1.1.1 x.1.1.2.1 x.1.1.2.2.1 x.1.1.2.2.2.1 x.1.2.1 x.1.2.2.1 x.1.2.2.2.1
  emb := fun r => ([.dat (.int .i64) r], [])

noncomputable def E_im_Season_move : Env := envOf [(91, D_im_bagOf), (152, D_im_bag_has), (110, D_im_Field_service)]

noncomputable def Z_im_Season_move : Nat → Nat → List Nat := fun _ _ => []

noncomputable def O_im_Season_move : List (Nat × LD) := [(0, DL_im_Season_move_0)]

noncomputable def C_im_Season_move : Code := (f86.body).getD .skip

/-! ### 74 (loop.example/g01110/impl.Season).arePotentials -/

noncomputable def S_im_Season_arePotentials_4 (k : (List (List (Int))) × ((Int) × ((Int) × ((Int) × ((Int) × ((Int) × ((List (Int)) × ((Int) × ((Int) × ((Int) × ((List (Int)) × ((List (Int)) × ((List (Int)) × ((List (List (List (Int)))) × (List (List (Int))))))))))))))))) (v : Int) : Tr ((Int) ⊕ ((Unit) ⊕ (Unit))) :=
  .t (decide (v < k.2.2.2.2.2.2.2.2.2.1))
    (.g (inR v (List.length k.2.2.2.2.2.2.2.2.2.2.2.2.2.2)) <|
      .g (decide ((Int.toNat v) < List.length k.2.2.2.2.2.2.2.2.2.2.2.2.2.2)) <|
      .c (List (Int)) (F_im_bag_list (IntKind.wrap .u64 k.2.2.1)) fun r40_ =>
      .c (Int) (F_im_Season_move k.2.2.2.2.2.2.2.2.2.2.1 k.2.2.2.2.2.2.2.2.2.2.2.1 k.2.2.2.2.2.2.2.2.2.2.2.2.1 k.2.2.2.2.2.2.2.2.2.2.2.2.2.1 k.2.1 r40_ (List.getD k.2.2.2.2.2.2.2.2.2.2.2.2.2.2 (Int.toNat v) ([] : List (Int)))) fun r41_ =>
      .g (inR (IntKind.wrap .i64 (k.2.1 + (1 : Int))) (List.length k.1)) <|
      .c (Int) (F_im_bagOf (List.getD k.2.2.2.2.2.2.2.2.2.2.2.2.2.2 (Int.toNat v) ([] : List (Int)))) fun r42_ =>
      .g (inR r42_ (List.length (List.getD k.1 (Int.toNat (IntKind.wrap .i64 (k.2.1 + (1 : Int)))) ([] : List (Int))))) <|
      .t (decide ((IntKind.wrap .i64 (r41_ + (List.getD (List.getD k.1 (Int.toNat (IntKind.wrap .i64 (k.2.1 + (1 : Int)))) ([] : List (Int))) (Int.toNat r42_) (0 : Int)))) < k.2.2.2.1))
        (.l (.inr (.inr ())))
        (.l (.inl (IntKind.wrap .i64 (v + (1 : Int))))))
    (.l (.inr (.inl ())))

noncomputable def L_im_Season_arePotentials_4 (k : (List (List (Int))) × ((Int) × ((Int) × ((Int) × ((Int) × ((Int) × ((List (Int)) × ((Int) × ((Int) × ((Int) × ((List (Int)) × ((List (Int)) × ((List (Int)) × ((List (List (List (Int)))) × (List (List (Int))))))))))))))))) (v : Int) : Option ((Unit) ⊕ (Unit)) := iter (fun v => (S_im_Season_arePotentials_4 k v).ev) v

noncomputable def DL_im_Season_arePotentials_4 : LD where
  head := { acts := [], S := { slots := [1, 2, 6, 7, 8, 30, 31, 37, 38, 39, 46, 47, 48], sh := (.cons (.dat (.slice (.slice (.int .i64)))) (.cons (.box 2 0) (.cons (.dat (.int .i64)) (.cons (.dat (.int .i64)) (.cons (.dat (.int .i64)) (.cons (.dat (.int .i64)) (.cons (.dat (.int .i64)) (.cons (.dat (.slice (.int .i64))) (.cons (.dat (.int .i64)) (.cons (.dat (.int .i64)) (.cons (.arr 2944) (.cons (.dat (.int .i64)) (.cons (.dat (.int .i64)) .nil))))))))))))), obs := [(2, .cells (.cons (.dat (.slice (.int .i64))) (.cons (.dat (.slice (.int .i64))) (.cons (.dat (.slice (.int .i64))) (.cons (.dat (.slice (.slice (.slice (.int .i64))))) .nil))))), (2944, .arr 22 (.slice (.int .i64)))] } }
  exits := [(4, { acts := [], S := { slots := [1, 2, 6, 30, 31, 37, 38, 39], sh := (.cons (.dat (.slice (.slice (.int .i64)))) (.cons (.box 2 0) (.cons (.dat (.int .i64)) (.cons (.dat (.int .i64)) (.cons (.dat (.int .i64)) (.cons (.dat (.slice (.int .i64))) (.cons (.dat (.int .i64)) (.cons (.dat (.int .i64)) .nil)))))))), obs := [(2, .cells (.cons (.dat (.slice (.int .i64))) (.cons (.dat (.slice (.int .i64))) (.cons (.dat (.slice (.int .i64))) (.cons (.dat (.slice (.slice (.slice (.int .i64))))) .nil)))))] } })]
  rets := { acts := [], S := { slots := [4], sh := (.cons (.dat .bool) .nil), obs := [] } }
  K := (List (List (Int))) × ((Int) × ((Int) × ((Int) × ((Int) × ((Int) × ((List (Int)) × ((Int) × ((Int) × ((Int) × ((List (Int)) × ((List (Int)) × ((List (Int)) × ((List (List (List (Int)))) × (List (List (Int))))))))))))))))
  V := Int
  R := (Unit) ⊕ (Unit)
  join := fun k v => ((k.1, ((), (k.2.1, (k.2.2.1, (k.2.2.2.1, (k.2.2.2.2.1, (k.2.2.2.2.2.1, (k.2.2.2.2.2.2.1, (k.2.2.2.2.2.2.2.1, (k.2.2.2.2.2.2.2.2.1, ((), (k.2.2.2.2.2.2.2.2.2.1, (v, ()))))))))))))), ((k.2.2.2.2.2.2.2.2.2.2.1, (k.2.2.2.2.2.2.2.2.2.2.2.1, (k.2.2.2.2.2.2.2.2.2.2.2.2.1, (k.2.2.2.2.2.2.2.2.2.2.2.2.2.1, ())))), (k.2.2.2.2.2.2.2.2.2.2.2.2.2.2, ())))
  sk := fun t => (t.1.1, (t.1.2.2.1, (t.1.2.2.2.1, (t.1.2.2.2.2.1, (t.1.2.2.2.2.2.1, (t.1.2.2.2.2.2.2.1, (t.1.2.2.2.2.2.2.2.1, (t.1.2.2.2.2.2.2.2.2.1, (t.1.2.2.2.2.2.2.2.2.2.1, (t.1.2.2.2.2.2.2.2.2.2.2.2.1, (t.2.1.1, (t.2.1.2.1, (t.2.1.2.2.1, (t.2.1.2.2.2.1, t.2.2.1))))))))))))))
  sv := fun t => t.1.2.2.2.2.2.2.2.2.2.2.2.2.1
  step := S_im_Season_arePotentials_4
  leaf := fun k r => .s (Unit) (Unit) r (fun _ => .l (.exit 4 (mkSt ({ slots := [1, 2, 6, 30, 31, 37, 38, 39], sh := (.cons (.dat (.slice (.slice (.int .i64)))) (.cons (.box 2 0) (.cons (.dat (.int .i64)) (.cons (.dat (.int .i64)) (.cons (.dat (.int .i64)) (.cons (.dat (.slice (.int .i64))) (.cons (.dat (.int .i64)) (.cons (.dat (.int .i64)) .nil)))))))), obs := [(2, .cells (.cons (.dat (.slice (.int .i64))) (.cons (.dat (.slice (.int .i64))) (.cons (.dat (.slice (.int .i64))) (.cons (.dat (.slice (.slice (.slice (.int .i64))))) .nil)))))] }) ((k.1, ((), (k.2.1, (k.2.2.2.2.1, (k.2.2.2.2.2.1, (k.2.2.2.2.2.2.1, (k.2.2.2.2.2.2.2.1, (k.2.2.2.2.2.2.2.2.1, ())))))))), ((k.2.2.2.2.2.2.2.2.2.2.1, (k.2.2.2.2.2.2.2.2.2.2.2.1, (k.2.2.2.2.2.2.2.2.2.2.2.2.1, (k.2.2.2.2.2.2.2.2.2.2.2.2.2.1, ())))), ()))))) (fun _ => .l (.ret (mkSt ({ slots := [4], sh := (.cons (.dat .bool) .nil), obs := [] }) ((false, ()), ()))))

noncomputable def S_im_Season_arePotentials_2 (k : (List (List (Int))) × ((Int) × ((Int) × ((Int) × ((List (Int)) × ((Int) × ((List (Int)) × ((List (Int)) × ((List (Int)) × (List (List (List (Int))))))))))))) (v : Int) : Tr ((Int) ⊕ ((Unit) ⊕ (Unit))) :=
  .t (decide (v < k.2.2.2.2.2.1))
    (.g (inR v (List.length k.2.2.2.2.1)) <|
      .c (List (List (Int))) (F_im_Season_choices k.2.2.2.2.2.2.1 k.2.2.2.2.2.2.2.1 k.2.2.2.2.2.2.2.2.1 k.2.2.2.2.2.2.2.2.2 k.2.1) fun r23_ =>
      .c ((Unit) ⊕ (Unit)) (L_im_Season_arePotentials_4 (k.1, (k.2.1, (v, ((List.getD k.2.2.2.2.1 (Int.toNat v) (0 : Int)), (k.2.2.1, (k.2.2.2.1, (k.2.2.2.2.1, (k.2.2.2.2.2.1, (v, (((List.length r23_ : Nat) : Int), (k.2.2.2.2.2.2.1, (k.2.2.2.2.2.2.2.1, (k.2.2.2.2.2.2.2.2.1, (k.2.2.2.2.2.2.2.2.2, r23_)))))))))))))) (0 : Int)) fun r55_ =>
      .s (Unit) (Unit) r55_
        (fun _ => .l (.inl (IntKind.wrap .i64 (v + (1 : Int)))))
        (fun _ => .l (.inr (.inr ()))))
    (.l (.inr (.inl ())))

noncomputable def L_im_Season_arePotentials_2 (k : (List (List (Int))) × ((Int) × ((Int) × ((Int) × ((List (Int)) × ((Int) × ((List (Int)) × ((List (Int)) × ((List (Int)) × (List (List (List (Int))))))))))))) (v : Int) : Option ((Unit) ⊕ (Unit)) := iter (fun v => (S_im_Season_arePotentials_2 k v).ev) v

noncomputable def DL_im_Season_arePotentials_2 : LD where
  head := { acts := [], S := { slots := [1, 2, 6, 30, 31, 37, 38, 39], sh := (.cons (.dat (.slice (.slice (.int .i64)))) (.cons (.box 2 0) (.cons (.dat (.int .i64)) (.cons (.dat (.int .i64)) (.cons (.dat (.int .i64)) (.cons (.dat (.slice (.int .i64))) (.cons (.dat (.int .i64)) (.cons (.dat (.int .i64)) .nil)))))))), obs := [(2, .cells (.cons (.dat (.slice (.int .i64))) (.cons (.dat (.slice (.int .i64))) (.cons (.dat (.slice (.int .i64))) (.cons (.dat (.slice (.slice (.slice (.int .i64))))) .nil)))))] } }
  exits := [(2, { acts := [], S := { slots := [1, 2, 30, 31], sh := (.cons (.dat (.slice (.slice (.int .i64)))) (.cons (.box 2 0) (.cons (.dat (.int .i64)) (.cons (.dat (.int .i64)) .nil)))), obs := [(2, .cells (.cons (.dat (.slice (.int .i64))) (.cons (.dat (.slice (.int .i64))) (.cons (.dat (.slice (.int .i64))) (.cons (.dat (.slice (.slice (.slice (.int .i64))))) .nil)))))] } })]
  rets := { acts := [], S := { slots := [4], sh := (.cons (.dat .bool) .nil), obs := [] } }
  K := (List (List (Int))) × ((Int) × ((Int) × ((Int) × ((List (Int)) × ((Int) × ((List (Int)) × ((List (Int)) × ((List (Int)) × (List (List (List (Int))))))))))))
  V := Int
  R := (Unit) ⊕ (Unit)
  join := fun k v => ((k.1, ((), (k.2.1, (k.2.2.1, (k.2.2.2.1, (k.2.2.2.2.1, (k.2.2.2.2.2.1, (v, ())))))))), ((k.2.2.2.2.2.2.1, (k.2.2.2.2.2.2.2.1, (k.2.2.2.2.2.2.2.2.1, (k.2.2.2.2.2.2.2.2.2, ())))), ()))
  sk := fun t => (t.1.1, (t.1.2.2.1, (t.1.2.2.2.1, (t.1.2.2.2.2.1, (t.1.2.2.2.2.2.1, (t.1.2.2.2.2.2.2.1, (t.2.1.1, (t.2.1.2.1, (t.2.1.2.2.1, t.2.1.2.2.2.1)))))))))
  sv := fun t => t.1.2.2.2.2.2.2.2.1
  step := S_im_Season_arePotentials_2
  leaf := fun k r => .s (Unit) (Unit) r (fun _ => .l (.exit 2 (mkSt ({ slots := [1, 2, 30, 31], sh := (.cons (.dat (.slice (.slice (.int .i64)))) (.cons (.box 2 0) (.cons (.dat (.int .i64)) (.cons (.dat (.int .i64)) .nil)))), obs := [(2, .cells (.cons (.dat (.slice (.int .i64))) (.cons (.dat (.slice (.int .i64))) (.cons (.dat (.slice (.int .i64))) (.cons (.dat (.slice (.slice (.slice (.int .i64))))) .nil)))))] }) ((k.1, ((), (k.2.2.1, (k.2.2.2.1, ())))), ((k.2.2.2.2.2.2.1, (k.2.2.2.2.2.2.2.1, (k.2.2.2.2.2.2.2.2.1, (k.2.2.2.2.2.2.2.2.2, ())))), ()))))) (fun _ => .l (.ret (mkSt ({ slots := [4], sh := (.cons (.dat .bool) .nil), obs := [] }) ((false, ()), ()))))

noncomputable def S_im_Season_arePotentials_0 (k : (List (List (Int))) × ((Int) × ((List (Int)) × ((List (Int)) × ((List (Int)) × (List (List (List (Int))))))))) (v : Int) : Tr ((Int) ⊕ ((Unit) ⊕ (Unit))) :=
  .t (decide (v < k.2.1))
    (.g (inR v (List.length k.1)) <|
      .c ((Unit) ⊕ (Unit)) (L_im_Season_arePotentials_2 (k.1, (v, (k.2.1, (v, ((List.getD k.1 (Int.toNat v) ([] : List (Int))), (((List.length (List.getD k.1 (Int.toNat v) ([] : List (Int))) : Nat) : Int), (k.2.2.1, (k.2.2.2.1, (k.2.2.2.2.1, k.2.2.2.2.2))))))))) (0 : Int)) fun r66_ =>
      .s (Unit) (Unit) r66_
        (fun _ => .l (.inl (IntKind.wrap .i64 (v + (1 : Int)))))
        (fun _ => .l (.inr (.inr ()))))
    (.l (.inr (.inl ())))

noncomputable def L_im_Season_arePotentials_0 (k : (List (List (Int))) × ((Int) × ((List (Int)) × ((List (Int)) × ((List (Int)) × (List (List (List (Int))))))))) (v : Int) : Option ((Unit) ⊕ (Unit)) := iter (fun v => (S_im_Season_arePotentials_0 k v).ev) v

noncomputable def DL_im_Season_arePotentials_0 : LD where
  head := { acts := [], S := { slots := [1, 2, 30, 31], sh := (.cons (.dat (.slice (.slice (.int .i64)))) (.cons (.box 2 0) (.cons (.dat (.int .i64)) (.cons (.dat (.int .i64)) .nil)))), obs := [(2, .cells (.cons (.dat (.slice (.int .i64))) (.cons (.dat (.slice (.int .i64))) (.cons (.dat (.slice (.int .i64))) (.cons (.dat (.slice (.slice (.slice (.int .i64))))) .nil)))))] } }
  exits := [(0, { acts := [], S := { slots := [], sh := .nil, obs := [] } })]
  rets := { acts := [], S := { slots := [4], sh := (.cons (.dat .bool) .nil), obs := [] } }
  K := (List (List (Int))) × ((Int) × ((List (Int)) × ((List (Int)) × ((List (Int)) × (List (List (List (Int))))))))
  V := Int
  R := (Unit) ⊕ (Unit)
  join := fun k v => ((k.1, ((), (k.2.1, (v, ())))), ((k.2.2.1, (k.2.2.2.1, (k.2.2.2.2.1, (k.2.2.2.2.2, ())))), ()))
  sk := fun t => (t.1.1, (t.1.2.2.1, (t.2.1.1, (t.2.1.2.1, (t.2.1.2.2.1, t.2.1.2.2.2.1)))))
  sv := fun t => t.1.2.2.2.1
  step := S_im_Season_arePotentials_0
  leaf := fun _ r => .s (Unit) (Unit) r (fun _ => .l (.exit 0 (mkSt ({ slots := [], sh := .nil, obs := [] }) ((), ())))) (fun _ => .l (.ret (mkSt ({ slots := [4], sh := (.cons (.dat .bool) .nil), obs := [] }) ((false, ()), ()))))

noncomputable def T_im_Season_arePotentials (a1_ : List (Int)) (a2_ : List (Int)) (a3_ : List (Int)) (a4_ : List (List (List (Int)))) (a5_ : List (List (Int))) : Tr (Bool) :=
  .t (((List.length a5_ : Nat) : Int) != (IntKind.wrap .i64 (((List.length a4_ : Nat) : Int) + (1 : Int))))
    (.l false)
    (.c (Bool) (F_slices_ContainsFunc_SSint_Sint a5_ (fun h1_ => Option.bind (F_im_Season_arePotentials_1 h1_.1 a1_ a2_ a3_ a4_) fun y2_ => some y2_)) fun r3_ =>
      .t r3_
        (.l false)
        (.g (inR ((List.length a4_ : Nat) : Int) (List.length a5_)) <|
          .c (Int) (F_slices_Max_Sint_int (List.getD a5_ (Int.toNat ((List.length a4_ : Nat) : Int)) ([] : List (Int)))) fun r4_ =>
          .t (decide ((0 : Int) < r4_))
            (.l false)
            (.c ((Unit) ⊕ (Unit)) (L_im_Season_arePotentials_0 (a5_, (((List.length a4_ : Nat) : Int), (a1_, (a2_, (a3_, a4_))))) (0 : Int)) fun r70_ =>
              .s (Unit) (Unit) r70_
                (fun _ => .l true)
                (fun _ => .l false))))

noncomputable def F_im_Season_arePotentials (a1_ : List (Int)) (a2_ : List (Int)) (a3_ : List (Int)) (a4_ : List (List (List (Int)))) (a5_ : List (List (Int))) : Option (Bool) := (T_im_Season_arePotentials a1_ a2_ a3_ a4_ a5_).ev

noncomputable def A_im_Season_arePotentials : Sh := (.cons (.agg (.cons (.dat (.slice (.int .i64))) (.cons (.dat (.slice (.int .i64))) (.cons (.dat (.slice (.int .i64))) (.cons (.dat (.slice (.slice (.slice (.int .i64))))) .nil))))) (.cons (.dat (.slice (.slice (.int .i64)))) .nil))

noncomputable def I_im_Season_arePotentials : List (Nat × OSh) := []

noncomputable def K_im_Season_arePotentials : RetK := { acts := [], res := [.tmp 4], sh := (.cons (.dat .bool) .nil), obs := [], pins := [] }

noncomputable def D_im_Season_arePotentials : FD where
  A := A_im_Season_arePotentials
  ins := I_im_Season_arePotentials
  lend := []
  R := Bool
  F := fun x => F_im_Season_arePotentials x.1.1.1 x.1.1.2.1 x.1.1.2.2.1 x.1.1.2.2.2.1 x.1.2.1
  emb := fun r => ([.dat .bool r], [])

noncomputable def E_im_Season_arePotentials : Env := envOf [(141, D_slices_ContainsFunc_SSint_Sint), (146, D_slices_Max_Sint_int), (84, D_im_Season_choices), (144, D_im_bag_list), (86, D_im_Season_move), (91, D_im_bagOf), (145, D_im_Season_arePotentials_1)]

noncomputable def Z_im_Season_arePotentials : Nat → Nat → List Nat := fun _ _ => []

noncomputable def O_im_Season_arePotentials : List (Nat × LD) := [(4, DL_im_Season_arePotentials_4), (2, DL_im_Season_arePotentials_2), (0, DL_im_Season_arePotentials_0)]

noncomputable def C_im_Season_arePotentials : Code := (f74.body).getD .skip

/-! ### 21 loop.example/g01110/impl.ArePotentials -/

noncomputable def T_im_ArePotentials (a1_ : List (Int)) (a2_ : List (Int)) (a3_ : List (Int)) (a4_ : List (List (List (Int)))) (a5_ : List (List (Int))) : Tr ((Bool) × (Bool)) :=
  .c (Bool) (F_im_IsSeason a1_ a2_ a3_ a4_) fun r1_ =>
  .t (!r1_)
    (.l (false, false))
    (.c (Bool) (F_im_Season_arePotentials a1_ a2_ a3_ a4_ a5_) fun r2_ =>
      .l (r2_, true))

noncomputable def F_im_ArePotentials (a1_ : List (Int)) (a2_ : List (Int)) (a3_ : List (Int)) (a4_ : List (List (List (Int)))) (a5_ : List (List (Int))) : Option ((Bool) × (Bool)) := (T_im_ArePotentials a1_ a2_ a3_ a4_ a5_).ev

noncomputable def A_im_ArePotentials : Sh := (.cons (.agg (.cons (.dat (.slice (.int .i64))) (.cons (.dat (.slice (.int .i64))) (.cons (.dat (.slice (.int .i64))) (.cons (.dat (.slice (.slice (.slice (.int .i64))))) .nil))))) (.cons (.dat (.slice (.slice (.int .i64)))) .nil))

noncomputable def I_im_ArePotentials : List (Nat × OSh) := []

noncomputable def K_im_ArePotentials : RetK := { acts := [], res := [.tmp 4, .tmp 5], sh := (.cons (.dat .bool) (.cons (.dat .bool) .nil)), obs := [], pins := [] }

noncomputable def D_im_ArePotentials : FD where
  A := A_im_ArePotentials
  ins := I_im_ArePotentials
  lend := []
  R := (Bool) × (Bool)
  F := fun x => F_im_ArePotentials x.1.1.1 x.1.1.2.1 x.1.1.2.2.1 x.1.1.2.2.2.1 x.1.2.1
  emb := fun r => ([.dat .bool r.1, .dat .bool r.2], [])

noncomputable def E_im_ArePotentials : Env := envOf [(69, D_im_IsSeason), (74, D_im_Season_arePotentials)]

noncomputable def Z_im_ArePotentials : Nat → Nat → List Nat := fun _ _ => []

noncomputable def O_im_ArePotentials : List (Nat × LD) := []

noncomputable def C_im_ArePotentials : Code := (f21.body).getD .skip

/-! ### 43 loop.example/g01110/laws.eqIntS -/

noncomputable def S_lw_eqIntS_0 (k : (List (Int)) × (List (Int))) (v : Int) : Tr ((Int) ⊕ ((Unit) ⊕ (Unit))) :=
  .t (decide (v < ((List.length k.1 : Nat) : Int)))
    (.g (inR v (List.length k.1)) <|
      .g (inR v (List.length k.2)) <|
      .t ((List.getD k.1 (Int.toNat v) (0 : Int)) != (List.getD k.2 (Int.toNat v) (0 : Int)))
        (.l (.inr (.inr ())))
        (.l (.inl (IntKind.wrap .i64 (v + (1 : Int))))))
    (.l (.inr (.inl ())))

noncomputable def L_lw_eqIntS_0 (k : (List (Int)) × (List (Int))) (v : Int) : Option ((Unit) ⊕ (Unit)) := iter (fun v => (S_lw_eqIntS_0 k v).ev) v

noncomputable def DL_lw_eqIntS_0 : LD where
  head := { acts := [], S := { slots := [0, 1, 5], sh := (.cons (.dat (.slice (.int .i64))) (.cons (.dat (.slice (.int .i64))) (.cons (.dat (.int .i64)) .nil))), obs := [] } }
  exits := [(0, { acts := [], S := { slots := [], sh := .nil, obs := [] } })]
  rets := { acts := [], S := { slots := [4], sh := (.cons (.dat .bool) .nil), obs := [] } }
  K := (List (Int)) × (List (Int))
  V := Int
  R := (Unit) ⊕ (Unit)
  join := fun k v => ((k.1, (k.2, (v, ()))), ())
  sk := fun t => (t.1.1, t.1.2.1)
  sv := fun t => t.1.2.2.1
  step := S_lw_eqIntS_0
  leaf := fun _ r => .s (Unit) (Unit) r (fun _ => .l (.exit 0 (mkSt ({ slots := [], sh := .nil, obs := [] }) ((), ())))) (fun _ => .l (.ret (mkSt ({ slots := [4], sh := (.cons (.dat .bool) .nil), obs := [] }) ((false, ()), ()))))

noncomputable def T_lw_eqIntS (a1_ : List (Int)) (a2_ : List (Int)) : Tr (Bool) :=
  .t (((List.length a1_ : Nat) : Int) != ((List.length a2_ : Nat) : Int))
    (.l false)
    (.c ((Unit) ⊕ (Unit)) (L_lw_eqIntS_0 (a1_, a2_) (0 : Int)) fun r5_ =>
      .s (Unit) (Unit) r5_
        (fun _ => .l true)
        (fun _ => .l false))

noncomputable def F_lw_eqIntS (a1_ : List (Int)) (a2_ : List (Int)) : Option (Bool) := (T_lw_eqIntS a1_ a2_).ev

noncomputable def A_lw_eqIntS : Sh := (.cons (.dat (.slice (.int .i64))) (.cons (.dat (.slice (.int .i64))) .nil))

noncomputable def I_lw_eqIntS : List (Nat × OSh) := []

noncomputable def K_lw_eqIntS : RetK := { acts := [], res := [.tmp 4], sh := (.cons (.dat .bool) .nil), obs := [], pins := [] }

noncomputable def D_lw_eqIntS : FD where
  A := A_lw_eqIntS
  ins := I_lw_eqIntS
  lend := []
  R := Bool
  F := fun x => F_lw_eqIntS x.1.1 x.1.2.1
  emb := fun r => ([.dat .bool r], [])

noncomputable def E_lw_eqIntS : Env := envOf []

noncomputable def Z_lw_eqIntS : Nat → Nat → List Nat := fun _ _ => []

noncomputable def O_lw_eqIntS : List (Nat × LD) := [(0, DL_lw_eqIntS_0)]

noncomputable def C_lw_eqIntS : Code := (f43.body).getD .skip

/-! ### 22 loop.example/g01110/laws.eqIntSS -/

noncomputable def S_lw_eqIntSS_0 (k : (List (List (Int))) × (List (List (Int)))) (v : Int) : Tr ((Int) ⊕ ((Unit) ⊕ (Unit))) :=
  .t (decide (v < ((List.length k.1 : Nat) : Int)))
    (.g (inR v (List.length k.1)) <|
      .g (inR v (List.length k.2)) <|
      .c (Bool) (F_lw_eqIntS (List.getD k.1 (Int.toNat v) ([] : List (Int))) (List.getD k.2 (Int.toNat v) ([] : List (Int)))) fun r4_ =>
      .t (!r4_)
        (.l (.inr (.inr ())))
        (.l (.inl (IntKind.wrap .i64 (v + (1 : Int))))))
    (.l (.inr (.inl ())))

noncomputable def L_lw_eqIntSS_0 (k : (List (List (Int))) × (List (List (Int)))) (v : Int) : Option ((Unit) ⊕ (Unit)) := iter (fun v => (S_lw_eqIntSS_0 k v).ev) v

noncomputable def DL_lw_eqIntSS_0 : LD where
  head := { acts := [], S := { slots := [0, 1, 5], sh := (.cons (.dat (.slice (.slice (.int .i64)))) (.cons (.dat (.slice (.slice (.int .i64)))) (.cons (.dat (.int .i64)) .nil))), obs := [] } }
  exits := [(0, { acts := [], S := { slots := [], sh := .nil, obs := [] } })]
  rets := { acts := [], S := { slots := [4], sh := (.cons (.dat .bool) .nil), obs := [] } }
  K := (List (List (Int))) × (List (List (Int)))
  V := Int
  R := (Unit) ⊕ (Unit)
  join := fun k v => ((k.1, (k.2, (v, ()))), ())
  sk := fun t => (t.1.1, t.1.2.1)
  sv := fun t => t.1.2.2.1
  step := S_lw_eqIntSS_0
  leaf := fun _ r => .s (Unit) (Unit) r (fun _ => .l (.exit 0 (mkSt ({ slots := [], sh := .nil, obs := [] }) ((), ())))) (fun _ => .l (.ret (mkSt ({ slots := [4], sh := (.cons (.dat .bool) .nil), obs := [] }) ((false, ()), ()))))

noncomputable def T_lw_eqIntSS (a1_ : List (List (Int))) (a2_ : List (List (Int))) : Tr (Bool) :=
  .t (((List.length a1_ : Nat) : Int) != ((List.length a2_ : Nat) : Int))
    (.l false)
    (.c ((Unit) ⊕ (Unit)) (L_lw_eqIntSS_0 (a1_, a2_) (0 : Int)) fun r6_ =>
      .s (Unit) (Unit) r6_
        (fun _ => .l true)
        (fun _ => .l false))

noncomputable def F_lw_eqIntSS (a1_ : List (List (Int))) (a2_ : List (List (Int))) : Option (Bool) := (T_lw_eqIntSS a1_ a2_).ev

noncomputable def A_lw_eqIntSS : Sh := (.cons (.dat (.slice (.slice (.int .i64)))) (.cons (.dat (.slice (.slice (.int .i64)))) .nil))

noncomputable def I_lw_eqIntSS : List (Nat × OSh) := []

noncomputable def K_lw_eqIntSS : RetK := { acts := [], res := [.tmp 4], sh := (.cons (.dat .bool) .nil), obs := [], pins := [] }

noncomputable def D_lw_eqIntSS : FD where
  A := A_lw_eqIntSS
  ins := I_lw_eqIntSS
  lend := []
  R := Bool
  F := fun x => F_lw_eqIntSS x.1.1 x.1.2.1
  emb := fun r => ([.dat .bool r], [])

noncomputable def E_lw_eqIntSS : Env := envOf [(43, D_lw_eqIntS)]

noncomputable def Z_lw_eqIntSS : Nat → Nat → List Nat := fun _ _ => []

noncomputable def O_lw_eqIntSS : List (Nat × LD) := [(0, DL_lw_eqIntSS_0)]

noncomputable def C_lw_eqIntSS : Code := (f22.body).getD .skip

/-! ### 71 loop.example/g01110/laws.eqIntSSS -/

noncomputable def S_lw_eqIntSSS_0 (k : (List (List (List (Int)))) × (List (List (List (Int))))) (v : Int) : Tr ((Int) ⊕ ((Unit) ⊕ (Unit))) :=
  .t (decide (v < ((List.length k.1 : Nat) : Int)))
    (.g (inR v (List.length k.1)) <|
      .g (inR v (List.length k.2)) <|
      .c (Bool) (F_lw_eqIntSS (List.getD k.1 (Int.toNat v) ([] : List (List (Int)))) (List.getD k.2 (Int.toNat v) ([] : List (List (Int))))) fun r4_ =>
      .t (!r4_)
        (.l (.inr (.inr ())))
        (.l (.inl (IntKind.wrap .i64 (v + (1 : Int))))))
    (.l (.inr (.inl ())))

noncomputable def L_lw_eqIntSSS_0 (k : (List (List (List (Int)))) × (List (List (List (Int))))) (v : Int) : Option ((Unit) ⊕ (Unit)) := iter (fun v => (S_lw_eqIntSSS_0 k v).ev) v

noncomputable def DL_lw_eqIntSSS_0 : LD where
  head := { acts := [], S := { slots := [0, 1, 5], sh := (.cons (.dat (.slice (.slice (.slice (.int .i64))))) (.cons (.dat (.slice (.slice (.slice (.int .i64))))) (.cons (.dat (.int .i64)) .nil))), obs := [] } }
  exits := [(0, { acts := [], S := { slots := [], sh := .nil, obs := [] } })]
  rets := { acts := [], S := { slots := [4], sh := (.cons (.dat .bool) .nil), obs := [] } }
  K := (List (List (List (Int)))) × (List (List (List (Int))))
  V := Int
  R := (Unit) ⊕ (Unit)
  join := fun k v => ((k.1, (k.2, (v, ()))), ())
  sk := fun t => (t.1.1, t.1.2.1)
  sv := fun t => t.1.2.2.1
  step := S_lw_eqIntSSS_0
  leaf := fun _ r => .s (Unit) (Unit) r (fun _ => .l (.exit 0 (mkSt ({ slots := [], sh := .nil, obs := [] }) ((), ())))) (fun _ => .l (.ret (mkSt ({ slots := [4], sh := (.cons (.dat .bool) .nil), obs := [] }) ((false, ()), ()))))

noncomputable def T_lw_eqIntSSS (a1_ : List (List (List (Int)))) (a2_ : List (List (List (Int)))) : Tr (Bool) :=
  .t (((List.length a1_ : Nat) : Int) != ((List.length a2_ : Nat) : Int))
    (.l false)
    (.c ((Unit) ⊕ (Unit)) (L_lw_eqIntSSS_0 (a1_, a2_) (0 : Int)) fun r6_ =>
      .s (Unit) (Unit) r6_
        (fun _ => .l true)
        (fun _ => .l false))

noncomputable def F_lw_eqIntSSS (a1_ : List (List (List (Int)))) (a2_ : List (List (List (Int)))) : Option (Bool) := (T_lw_eqIntSSS a1_ a2_).ev

noncomputable def A_lw_eqIntSSS : Sh := (.cons (.dat (.slice (.slice (.slice (.int .i64))))) (.cons (.dat (.slice (.slice (.slice (.int .i64))))) .nil))

noncomputable def I_lw_eqIntSSS : List (Nat × OSh) := []

noncomputable def K_lw_eqIntSSS : RetK := { acts := [], res := [.tmp 4], sh := (.cons (.dat .bool) .nil), obs := [], pins := [] }

noncomputable def D_lw_eqIntSSS : FD where
  A := A_lw_eqIntSSS
  ins := I_lw_eqIntSSS
  lend := []
  R := Bool
  F := fun x => F_lw_eqIntSSS x.1.1 x.1.2.1
  emb := fun r => ([.dat .bool r], [])

noncomputable def E_lw_eqIntSSS : Env := envOf [(22, D_lw_eqIntSS)]

noncomputable def Z_lw_eqIntSSS : Nat → Nat → List Nat := fun _ _ => []

noncomputable def O_lw_eqIntSSS : List (Nat × LD) := [(0, DL_lw_eqIntSSS_0)]

noncomputable def C_lw_eqIntSSS : Code := (f71.body).getD .skip

/-! ### 17 loop.example/g01110/laws.eqSeason -/

noncomputable def T_lw_eqSeason (a1_ : List (Int)) (a2_ : List (Int)) (a3_ : List (Int)) (a4_ : List (List (List (Int)))) (a5_ : List (Int)) (a6_ : List (Int)) (a7_ : List (Int)) (a8_ : List (List (List (Int)))) : Tr (Bool) :=
  .c (Bool) (F_lw_eqIntS a1_ a5_) fun r1_ =>
  .t (!r1_)
    (.l false)
    (.c (Bool) (F_lw_eqIntS a2_ a6_) fun r2_ =>
      .t (!r2_)
        (.l false)
        (.c (Bool) (F_lw_eqIntS a3_ a7_) fun r3_ =>
          .t (!r3_)
            (.l false)
            (.c (Bool) (F_lw_eqIntSSS a4_ a8_) fun r4_ =>
              .t (!r4_)
                (.l false)
                (.l true))))

noncomputable def F_lw_eqSeason (a1_ : List (Int)) (a2_ : List (Int)) (a3_ : List (Int)) (a4_ : List (List (List (Int)))) (a5_ : List (Int)) (a6_ : List (Int)) (a7_ : List (Int)) (a8_ : List (List (List (Int)))) : Option (Bool) := (T_lw_eqSeason a1_ a2_ a3_ a4_ a5_ a6_ a7_ a8_).ev

noncomputable def A_lw_eqSeason : Sh := (.cons (.agg (.cons (.dat (.slice (.int .i64))) (.cons (.dat (.slice (.int .i64))) (.cons (.dat (.slice (.int .i64))) (.cons (.dat (.slice (.slice (.slice (.int .i64))))) .nil))))) (.cons (.agg (.cons (.dat (.slice (.int .i64))) (.cons (.dat (.slice (.int .i64))) (.cons (.dat (.slice (.int .i64))) (.cons (.dat (.slice (.slice (.slice (.int .i64))))) .nil))))) .nil))

noncomputable def I_lw_eqSeason : List (Nat × OSh) := []

noncomputable def K_lw_eqSeason : RetK := { acts := [], res := [.tmp 4], sh := (.cons (.dat .bool) .nil), obs := [], pins := [] }

noncomputable def D_lw_eqSeason : FD where
  A := A_lw_eqSeason
  ins := I_lw_eqSeason
  lend := []
  R := Bool
  F := fun x => F_lw_eqSeason x.1.1.1 x.1.1.2.1 x.1.1.2.2.1 x.1.1.2.2.2.1 x.1.2.1.1 x.1.2.1.2.1 x.1.2.1.2.2.1 x.1.2.1.2.2.2.1
  emb := fun r => ([.dat .bool r], [])

noncomputable def E_lw_eqSeason : Env := envOf [(43, D_lw_eqIntS), (71, D_lw_eqIntSSS)]

noncomputable def Z_lw_eqSeason : Nat → Nat → List Nat := fun _ _ => []

noncomputable def O_lw_eqSeason : List (Nat × LD) := []

noncomputable def C_lw_eqSeason : Code := (f17.body).getD .skip

/-! ### 4 loop.example/g01110/laws.FnExactArePotentials -/

noncomputable def T_lw_FnExactArePotentials (a1_ : List (Int)) (a2_ : List (Int)) (a3_ : List (Int)) (a4_ : List (List (List (Int)))) (a5_ : List (List (Int))) : Tr (Bool) :=
  .c (Int) (F_lw_szSeason a1_ a2_ a3_ a4_ (1048576 : Int)) fun r1_ =>
  .t (decide (r1_ < (0 : Int)))
    (.l true)
    (.c (Int) (F_lw_szIntSS a5_ r1_) fun r2_ =>
      .t (decide (r2_ < (0 : Int)))
        (.l true)
        (.c ((List (Int)) × ((List (Int)) × ((List (Int)) × (List (List (List (Int))))))) (F_lw_toSeason a1_ a2_ a3_ a4_) fun r3_ =>
          .c (List (List (Int))) (F_lw_toIntSS a5_) fun r4_ =>
          .c ((Bool) × (Bool)) (F_sp_ArePotentials r3_.1 r3_.2.1 r3_.2.2.1 r3_.2.2.2 r4_) fun r5_ =>
          .c ((List (Int)) × ((List (Int)) × ((List (Int)) × (List (List (List (Int))))))) (F_lw_toSeason a1_ a2_ a3_ a4_) fun r6_ =>
          .c (List (List (Int))) (F_lw_toIntSS a5_) fun r7_ =>
          .c ((Bool) × (Bool)) (F_im_ArePotentials r6_.1 r6_.2.1 r6_.2.2.1 r6_.2.2.2 r7_) fun r8_ =>
          .t (!(r8_.1 == r5_.1))
            (.l false)
            (.t (!(r8_.2 == r5_.2))
                (.l false)
                (.c ((List (Int)) × ((List (Int)) × ((List (Int)) × (List (List (List (Int))))))) (F_lw_toSeason a1_ a2_ a3_ a4_) fun r9_ =>
                  .c (Bool) (F_lw_eqSeason r6_.1 r6_.2.1 r6_.2.2.1 r6_.2.2.2 r9_.1 r9_.2.1 r9_.2.2.1 r9_.2.2.2) fun r10_ =>
                  .t (!r10_)
                    (.l false)
                    (.c (List (List (Int))) (F_lw_toIntSS a5_) fun r11_ =>
                      .c (Bool) (F_lw_eqIntSS r7_ r11_) fun r12_ =>
                      .t (!r12_)
                        (.l false)
                        (.l true))))))

noncomputable def F_lw_FnExactArePotentials (a1_ : List (Int)) (a2_ : List (Int)) (a3_ : List (Int)) (a4_ : List (List (List (Int)))) (a5_ : List (List (Int))) : Option (Bool) := (T_lw_FnExactArePotentials a1_ a2_ a3_ a4_ a5_).ev

noncomputable def A_lw_FnExactArePotentials : Sh := (.cons (.agg (.cons (.dat (.slice (.int .i64))) (.cons (.dat (.slice (.int .i64))) (.cons (.dat (.slice (.int .i64))) (.cons (.dat (.slice (.slice (.slice (.int .i64))))) .nil))))) (.cons (.dat (.slice (.slice (.int .i64)))) .nil))

noncomputable def I_lw_FnExactArePotentials : List (Nat × OSh) := []

noncomputable def K_lw_FnExactArePotentials : RetK := { acts := [], res := [.tmp 4], sh := (.cons (.dat .bool) .nil), obs := [], pins := [] }

noncomputable def D_lw_FnExactArePotentials : FD where
  A := A_lw_FnExactArePotentials
  ins := I_lw_FnExactArePotentials
  lend := []
  R := Bool
  F := fun x => F_lw_FnExactArePotentials x.1.1.1 x.1.1.2.1 x.1.1.2.2.1 x.1.1.2.2.2.1 x.1.2.1
  emb := fun r => ([.dat .bool r], [])

noncomputable def E_lw_FnExactArePotentials : Env := envOf [(13, D_lw_szSeason), (18, D_lw_szIntSS), (15, D_lw_toSeason), (20, D_lw_toIntSS), (19, D_sp_ArePotentials), (21, D_im_ArePotentials), (17, D_lw_eqSeason), (22, D_lw_eqIntSS)]

noncomputable def Z_lw_FnExactArePotentials : Nat → Nat → List Nat := fun _ _ => []

noncomputable def O_lw_FnExactArePotentials : List (Nat × LD) := []

noncomputable def C_lw_FnExactArePotentials : Code := (f4.body).getD .skip

/-! ### 75 loop.example/g01110/spec.l10Plan -/

noncomputable def S_sp_l10Plan_0 (k : (List (List (Int))) × ((List (Int)) × ((List (Int)) × ((List (Int)) × (List (List (List (Int)))))))) (v : Int) : Tr ((Int) ⊕ ((Unit) ⊕ (Unit))) :=
  .t (decide (v < ((List.length k.1 : Nat) : Int)))
    (.t (decide (v < ((List.length k.2.2.2.2 : Nat) : Int)))
        (.g (inR v (List.length k.1)) <|
          .c (Bool) (F_sp_l10May k.2.1 k.2.2.1 k.2.2.2.1 k.2.2.2.2 v (List.getD k.1 (Int.toNat v) ([] : List (Int)))) fun r7_ =>
          .t (!r7_)
            (.l (.inr (.inr ())))
            (.l (.inl (IntKind.wrap .i64 (v + (1 : Int))))))
        (.l (.inr (.inl ()))))
    (.l (.inr (.inl ())))

noncomputable def L_sp_l10Plan_0 (k : (List (List (Int))) × ((List (Int)) × ((List (Int)) × ((List (Int)) × (List (List (List (Int)))))))) (v : Int) : Option ((Unit) ⊕ (Unit)) := iter (fun v => (S_sp_l10Plan_0 k v).ev) v

noncomputable def DL_sp_l10Plan_0 : LD where
  head := { acts := [], S := { slots := [1, 2, 5], sh := (.cons (.dat (.slice (.slice (.int .i64)))) (.cons (.box 2 0) (.cons (.dat (.int .i64)) .nil))), obs := [(2, .cells (.cons (.dat (.slice (.int .i64))) (.cons (.dat (.slice (.int .i64))) (.cons (.dat (.slice (.int .i64))) (.cons (.dat (.slice (.slice (.slice (.int .i64))))) .nil)))))] } }
  exits := [(0, { acts := [], S := { slots := [1, 2], sh := (.cons (.dat (.slice (.slice (.int .i64)))) (.cons (.box 2 0) .nil)), obs := [(2, .cells (.cons (.dat (.slice (.int .i64))) (.cons (.dat (.slice (.int .i64))) (.cons (.dat (.slice (.int .i64))) (.cons (.dat (.slice (.slice (.slice (.int .i64))))) .nil)))))] } })]
  rets := { acts := [], S := { slots := [4], sh := (.cons (.dat .bool) .nil), obs := [] } }
  K := (List (List (Int))) × ((List (Int)) × ((List (Int)) × ((List (Int)) × (List (List (List (Int)))))))
  V := Int
  R := (Unit) ⊕ (Unit)
  join := fun k v => ((k.1, ((), (v, ()))), ((k.2.1, (k.2.2.1, (k.2.2.2.1, (k.2.2.2.2, ())))), ()))
  sk := fun t => (t.1.1, (t.2.1.1, (t.2.1.2.1, (t.2.1.2.2.1, t.2.1.2.2.2.1))))
  sv := fun t => t.1.2.2.1
  step := S_sp_l10Plan_0
  leaf := fun k r => .s (Unit) (Unit) r (fun _ => .l (.exit 0 (mkSt ({ slots := [1, 2], sh := (.cons (.dat (.slice (.slice (.int .i64)))) (.cons (.box 2 0) .nil)), obs := [(2, .cells (.cons (.dat (.slice (.int .i64))) (.cons (.dat (.slice (.int .i64))) (.cons (.dat (.slice (.int .i64))) (.cons (.dat (.slice (.slice (.slice (.int .i64))))) .nil)))))] }) ((k.1, ((), ())), ((k.2.1, (k.2.2.1, (k.2.2.2.1, (k.2.2.2.2, ())))), ()))))) (fun _ => .l (.ret (mkSt ({ slots := [4], sh := (.cons (.dat .bool) .nil), obs := [] }) ((false, ()), ()))))

noncomputable def T_sp_l10Plan (a1_ : List (Int)) (a2_ : List (Int)) (a3_ : List (Int)) (a4_ : List (List (List (Int)))) (a5_ : List (List (Int))) : Tr (Bool) :=
  .c ((Unit) ⊕ (Unit)) (L_sp_l10Plan_0 (a5_, (a1_, (a2_, (a3_, a4_)))) (0 : Int)) fun r14_ =>
  .s (Unit) (Unit) r14_
    (fun _ => .l (((List.length a5_ : Nat) : Int) == ((List.length a4_ : Nat) : Int)))
    (fun _ => .l false)

noncomputable def F_sp_l10Plan (a1_ : List (Int)) (a2_ : List (Int)) (a3_ : List (Int)) (a4_ : List (List (List (Int)))) (a5_ : List (List (Int))) : Option (Bool) := (T_sp_l10Plan a1_ a2_ a3_ a4_ a5_).ev

noncomputable def A_sp_l10Plan : Sh := (.cons (.agg (.cons (.dat (.slice (.int .i64))) (.cons (.dat (.slice (.int .i64))) (.cons (.dat (.slice (.int .i64))) (.cons (.dat (.slice (.slice (.slice (.int .i64))))) .nil))))) (.cons (.dat (.slice (.slice (.int .i64)))) .nil))

noncomputable def I_sp_l10Plan : List (Nat × OSh) := []

noncomputable def K_sp_l10Plan : RetK := { acts := [], res := [.tmp 4], sh := (.cons (.dat .bool) .nil), obs := [], pins := [] }

noncomputable def D_sp_l10Plan : FD where
  A := A_sp_l10Plan
  ins := I_sp_l10Plan
  lend := []
  R := Bool
  F := fun x => F_sp_l10Plan x.1.1.1 x.1.1.2.1 x.1.1.2.2.1 x.1.1.2.2.2.1 x.1.2.1
  emb := fun r => ([.dat .bool r], [])

noncomputable def E_sp_l10Plan : Env := envOf [(80, D_sp_l10May)]

noncomputable def Z_sp_l10Plan : Nat → Nat → List Nat := fun _ _ => []

noncomputable def O_sp_l10Plan : List (Nat × LD) := [(0, DL_sp_l10Plan_0)]

noncomputable def C_sp_l10Plan : Code := (f75.body).getD .skip

/-! ### 77 loop.example/g01110/spec.l10Moves -/

noncomputable def S_sp_l10Moves_0 (k : (List (List (Int))) × ((List (Int)) × ((List (Int)) × ((List (Int)) × (List (List (List (Int)))))))) (v : (List (Int)) × ((Int) × (List (Int)))) : Tr (((List (Int)) × ((Int) × (List (Int)))) ⊕ (List (Int))) :=
  .t (decide (v.2.1 < ((List.length k.1 : Nat) : Int)))
    (.g (inR v.2.1 (List.length k.1)) <|
      .c (Int) (F_sp_l10Move k.2.1 k.2.2.1 k.2.2.2.1 k.2.2.2.2 v.2.1 v.1 (List.getD k.1 (Int.toNat v.2.1) ([] : List (Int)))) fun r18_ =>
      .g (decide ((List.length v.2.2 + List.length ([r18_] : List (Int))) * 8 ≤ 140737488355328)) <|
      .g (inR v.2.1 (List.length k.1)) <|
      .l (.inl ((List.getD k.1 (Int.toNat v.2.1) ([] : List (Int))), ((IntKind.wrap .i64 (v.2.1 + (1 : Int))), (v.2.2 ++ ([r18_] : List (Int)))))))
    (.l (.inr v.2.2))

noncomputable def L_sp_l10Moves_0 (k : (List (List (Int))) × ((List (Int)) × ((List (Int)) × ((List (Int)) × (List (List (List (Int)))))))) (v : (List (Int)) × ((Int) × (List (Int)))) : Option (List (Int)) := iter (fun v => (S_sp_l10Moves_0 k v).ev) v

noncomputable def DL_sp_l10Moves_0 : LD where
  head := { acts := [.fz 9], S := { slots := [1, 2, 5, 6, 7], sh := (.cons (.dat (.slice (.slice (.int .i64)))) (.cons (.box 2 0) (.cons (.arr 8) (.cons (.dat (.slice (.int .i64))) (.cons (.dat (.int .i64)) .nil))))), obs := [(2, .cells (.cons (.dat (.slice (.int .i64))) (.cons (.dat (.slice (.int .i64))) (.cons (.dat (.slice (.int .i64))) (.cons (.dat (.slice (.slice (.slice (.int .i64))))) .nil))))), (8, .arr 3 (.int .i64))] } }
  exits := [(0, { acts := [], S := { slots := [5], sh := (.cons (.arr 8) .nil), obs := [(8, .arr 3 (.int .i64))] } })]
  rets := { acts := [], S := { slots := [], sh := .nil, obs := [] } }
  K := (List (List (Int))) × ((List (Int)) × ((List (Int)) × ((List (Int)) × (List (List (List (Int)))))))
  V := (List (Int)) × ((Int) × (List (Int)))
  R := List (Int)
  join := fun k v => ((k.1, ((), ((), (v.1, (v.2.1, ()))))), ((k.2.1, (k.2.2.1, (k.2.2.2.1, (k.2.2.2.2, ())))), (v.2.2, ())))
  sk := fun t => (t.1.1, (t.2.1.1, (t.2.1.2.1, (t.2.1.2.2.1, t.2.1.2.2.2.1))))
  sv := fun t => (t.1.2.2.2.1, (t.1.2.2.2.2.1, t.2.2.1))
  step := S_sp_l10Moves_0
  leaf := fun _ r => .l (.exit 0 (mkSt ({ slots := [5], sh := (.cons (.arr 8) .nil), obs := [(8, .arr 3 (.int .i64))] }) (((), ()), (r, ()))))

noncomputable def T_sp_l10Moves (a1_ : List (Int)) (a2_ : List (Int)) (a3_ : List (Int)) (a4_ : List (List (List (Int)))) (a5_ : List (List (Int))) : Tr (List (Int)) :=
  .c (List (Int)) (L_sp_l10Moves_0 (a5_, (a1_, (a2_, (a3_, a4_)))) (([] : List (Int)), ((0 : Int), ([] : List (Int))))) fun r20_ =>
  .l r20_

noncomputable def F_sp_l10Moves (a1_ : List (Int)) (a2_ : List (Int)) (a3_ : List (Int)) (a4_ : List (List (List (Int)))) (a5_ : List (List (Int))) : Option (List (Int)) := (T_sp_l10Moves a1_ a2_ a3_ a4_ a5_).ev

noncomputable def A_sp_l10Moves : Sh := (.cons (.agg (.cons (.dat (.slice (.int .i64))) (.cons (.dat (.slice (.int .i64))) (.cons (.dat (.slice (.int .i64))) (.cons (.dat (.slice (.slice (.slice (.int .i64))))) .nil))))) (.cons (.dat (.slice (.slice (.int .i64)))) .nil))

noncomputable def I_sp_l10Moves : List (Nat × OSh) := []

noncomputable def K_sp_l10Moves : RetK := { acts := [.ren 8 0], res := [.tmp 4], sh := (.cons (.arr 0) .nil), obs := [(0, .arr 3 (.int .i64))], pins := [] }

noncomputable def D_sp_l10Moves : FD where
  A := A_sp_l10Moves
  ins := I_sp_l10Moves
  lend := []
  R := List (Int)
  F := fun x => F_sp_l10Moves x.1.1.1 x.1.1.2.1 x.1.1.2.2.1 x.1.1.2.2.2.1 x.1.2.1
  emb := fun r => ([.arr 0], [(0, .arr 3 (.int .i64) r)])

noncomputable def E_sp_l10Moves : Env := envOf [(81, D_sp_l10Move)]

noncomputable def Z_sp_l10Moves : Nat → Nat → List Nat := fun _ _ => []

noncomputable def O_sp_l10Moves : List (Nat × LD) := [(0, DL_sp_l10Moves_0)]

noncomputable def C_sp_l10Moves : Code := (f77.body).getD .skip

/-! ### 76 loop.example/g01110/spec.l10Sum -/

noncomputable def S_sp_l10Sum_0 (k : List (Int)) (v : (Int) × (Int)) : Tr (((Int) × (Int)) ⊕ (Int)) :=
  .t (decide (v.2 < ((List.length k : Nat) : Int)))
    (.g (inR v.2 (List.length k)) <|
      .l (.inl ((IntKind.wrap .i64 (v.1 + (List.getD k (Int.toNat v.2) (0 : Int)))), (IntKind.wrap .i64 (v.2 + (1 : Int))))))
    (.l (.inr v.1))

noncomputable def L_sp_l10Sum_0 (k : List (Int)) (v : (Int) × (Int)) : Option (Int) := iter (fun v => (S_sp_l10Sum_0 k v).ev) v

noncomputable def DL_sp_l10Sum_0 : LD where
  head := { acts := [], S := { slots := [0, 3, 4], sh := (.cons (.dat (.slice (.int .i64))) (.cons (.dat (.int .i64)) (.cons (.dat (.int .i64)) .nil))), obs := [] } }
  exits := [(0, { acts := [], S := { slots := [3], sh := (.cons (.dat (.int .i64)) .nil), obs := [] } })]
  rets := { acts := [], S := { slots := [], sh := .nil, obs := [] } }
  K := List (Int)
  V := (Int) × (Int)
  R := Int
  join := fun k v => ((k, (v.1, (v.2, ()))), ())
  sk := fun t => t.1.1
  sv := fun t => (t.1.2.1, t.1.2.2.1)
  step := S_sp_l10Sum_0
  leaf := fun _ r => .l (.exit 0 (mkSt ({ slots := [3], sh := (.cons (.dat (.int .i64)) .nil), obs := [] }) ((r, ()), ())))

noncomputable def T_sp_l10Sum (a1_ : List (Int)) : Tr (Int) :=
  .c (Int) (L_sp_l10Sum_0 a1_ ((0 : Int), (0 : Int))) fun r5_ =>
  .l r5_

noncomputable def F_sp_l10Sum (a1_ : List (Int)) : Option (Int) := (T_sp_l10Sum a1_).ev

noncomputable def A_sp_l10Sum : Sh := (.cons (.dat (.slice (.int .i64))) .nil)

noncomputable def I_sp_l10Sum : List (Nat × OSh) := []

noncomputable def K_sp_l10Sum : RetK := { acts := [], res := [.tmp 2], sh := (.cons (.dat (.int .i64)) .nil), obs := [], pins := [] }

noncomputable def D_sp_l10Sum : FD where
  A := A_sp_l10Sum
  ins := I_sp_l10Sum
  lend := []
  R := Int
  F := fun x => F_sp_l10Sum x.1.1
  emb := fun r => ([.dat (.int .i64) r], [])

noncomputable def E_sp_l10Sum : Env := envOf []

noncomputable def Z_sp_l10Sum : Nat → Nat → List Nat := fun _ _ => []

noncomputable def O_sp_l10Sum : List (Nat × LD) := [(0, DL_sp_l10Sum_0)]

noncomputable def C_sp_l10Sum : Code := (f76.body).getD .skip

/-! ### 23 loop.example/g01110/spec.PlanProof -/

noncomputable def T_sp_PlanProof (a1_ : List (Int)) (a2_ : List (Int)) (a3_ : List (Int)) (a4_ : List (List (List (Int)))) (a5_ : List (List (Int))) (a6_ : List (List (Int))) : Tr ((Bool) × (Bool)) :=
  .c (Bool) (F_sp_l10Good a1_ a2_ a3_ a4_) fun r1_ =>
  .t (!r1_)
    (.l (false, false))
    (.c (Bool) (F_sp_l10Plan a1_ a2_ a3_ a4_ a5_) fun r2_ =>
      .t (!r2_)
        (.l (false, false))
        (.c (Bool) (F_sp_l10Table a1_ a2_ a3_ a4_ a6_) fun r3_ =>
          .t r3_
            (.c (Bool) (F_sp_l10Safe a1_ a2_ a3_ a4_ a6_) fun r4_ =>
              .t r4_
                (.g (inR (0 : Int) (List.length a6_)) <|
                  .g (inR (0 : Int) (List.length (List.getD a6_ (Int.toNat (0 : Int)) ([] : List (Int))))) <|
                  .c (List (Int)) (F_sp_l10Moves a1_ a2_ a3_ a4_ a5_) fun r5_ =>
                  .c (Int) (F_sp_l10Sum r5_) fun r6_ =>
                  .l (((List.getD (List.getD a6_ (Int.toNat (0 : Int)) ([] : List (Int))) (Int.toNat (0 : Int)) (0 : Int)) == r6_), true))
                (.l (false, true)))
            (.l (false, true))))

noncomputable def F_sp_PlanProof (a1_ : List (Int)) (a2_ : List (Int)) (a3_ : List (Int)) (a4_ : List (List (List (Int)))) (a5_ : List (List (Int))) (a6_ : List (List (Int))) : Option ((Bool) × (Bool)) := (T_sp_PlanProof a1_ a2_ a3_ a4_ a5_ a6_).ev

noncomputable def A_sp_PlanProof : Sh := (.cons (.agg (.cons (.dat (.slice (.int .i64))) (.cons (.dat (.slice (.int .i64))) (.cons (.dat (.slice (.int .i64))) (.cons (.dat (.slice (.slice (.slice (.int .i64))))) .nil))))) (.cons (.dat (.slice (.slice (.int .i64)))) (.cons (.dat (.slice (.slice (.int .i64)))) .nil)))

noncomputable def I_sp_PlanProof : List (Nat × OSh) := []

noncomputable def K_sp_PlanProof : RetK := { acts := [], res := [.tmp 6, .tmp 7], sh := (.cons (.dat .bool) (.cons (.dat .bool) .nil)), obs := [], pins := [] }

noncomputable def D_sp_PlanProof : FD where
  A := A_sp_PlanProof
  ins := I_sp_PlanProof
  lend := []
  R := (Bool) × (Bool)
  F := fun x => F_sp_PlanProof x.1.1.1 x.1.1.2.1 x.1.1.2.2.1 x.1.1.2.2.2.1 x.1.2.1 x.1.2.2.1
  emb := fun r => ([.dat .bool r.1, .dat .bool r.2], [])

noncomputable def E_sp_PlanProof : Env := envOf [(66, D_sp_l10Good), (75, D_sp_l10Plan), (72, D_sp_l10Table), (73, D_sp_l10Safe), (77, D_sp_l10Moves), (76, D_sp_l10Sum)]

noncomputable def Z_sp_PlanProof : Nat → Nat → List Nat := fun _ _ => []

noncomputable def O_sp_PlanProof : List (Nat × LD) := []

noncomputable def C_sp_PlanProof : Code := (f23.body).getD .skip

/-! ### 96 (loop.example/g01110/impl.Season).isPlan -/

noncomputable def S_im_Season_isPlan_0 (k : (List (List (Int))) × ((Int) × ((List (Int)) × ((List (Int)) × ((List (Int)) × (List (List (List (Int))))))))) (v : Int) : Tr ((Int) ⊕ ((Unit) ⊕ (Unit))) :=
  .t (decide (v < k.2.1))
    (.g (inR v (List.length k.1)) <|
      .c (Bool) (F_im_Season_isPossible k.2.2.1 k.2.2.2.1 k.2.2.2.2.1 k.2.2.2.2.2 v (List.getD k.1 (Int.toNat v) ([] : List (Int)))) fun r8_ =>
      .t (!r8_)
        (.l (.inr (.inr ())))
        (.l (.inl (IntKind.wrap .i64 (v + (1 : Int))))))
    (.l (.inr (.inl ())))

noncomputable def L_im_Season_isPlan_0 (k : (List (List (Int))) × ((Int) × ((List (Int)) × ((List (Int)) × ((List (Int)) × (List (List (List (Int))))))))) (v : Int) : Option ((Unit) ⊕ (Unit)) := iter (fun v => (S_im_Season_isPlan_0 k v).ev) v

noncomputable def DL_im_Season_isPlan_0 : LD where
  head := { acts := [], S := { slots := [2, 13, 14, 15], sh := (.cons (.box 2 0) (.cons (.dat (.slice (.slice (.int .i64)))) (.cons (.dat (.int .i64)) (.cons (.dat (.int .i64)) .nil)))), obs := [(2, .cells (.cons (.dat (.slice (.int .i64))) (.cons (.dat (.slice (.int .i64))) (.cons (.dat (.slice (.int .i64))) (.cons (.dat (.slice (.slice (.slice (.int .i64))))) .nil)))))] } }
  exits := [(0, { acts := [], S := { slots := [], sh := .nil, obs := [] } })]
  rets := { acts := [], S := { slots := [4], sh := (.cons (.dat .bool) .nil), obs := [] } }
  K := (List (List (Int))) × ((Int) × ((List (Int)) × ((List (Int)) × ((List (Int)) × (List (List (List (Int))))))))
  V := Int
  R := (Unit) ⊕ (Unit)
  join := fun k v => (((), (k.1, (k.2.1, (v, ())))), ((k.2.2.1, (k.2.2.2.1, (k.2.2.2.2.1, (k.2.2.2.2.2, ())))), ()))
  sk := fun t => (t.1.2.1, (t.1.2.2.1, (t.2.1.1, (t.2.1.2.1, (t.2.1.2.2.1, t.2.1.2.2.2.1)))))
  sv := fun t => t.1.2.2.2.1
  step := S_im_Season_isPlan_0
  leaf := fun _ r => .s (Unit) (Unit) r (fun _ => .l (.exit 0 (mkSt ({ slots := [], sh := .nil, obs := [] }) ((), ())))) (fun _ => .l (.ret (mkSt ({ slots := [4], sh := (.cons (.dat .bool) .nil), obs := [] }) ((false, ()), ()))))

noncomputable def T_im_Season_isPlan (a1_ : List (Int)) (a2_ : List (Int)) (a3_ : List (Int)) (a4_ : List (List (List (Int)))) (a5_ : List (List (Int))) : Tr (Bool) :=
  .t (((List.length a5_ : Nat) : Int) != ((List.length a4_ : Nat) : Int))
    (.l false)
    (.c ((Unit) ⊕ (Unit)) (L_im_Season_isPlan_0 (a5_, (((List.length a5_ : Nat) : Int), (a1_, (a2_, (a3_, a4_))))) (0 : Int)) fun r10_ =>
      .s (Unit) (Unit) r10_
        (fun _ => .l true)
        (fun _ => .l false))

noncomputable def F_im_Season_isPlan (a1_ : List (Int)) (a2_ : List (Int)) (a3_ : List (Int)) (a4_ : List (List (List (Int)))) (a5_ : List (List (Int))) : Option (Bool) := (T_im_Season_isPlan a1_ a2_ a3_ a4_ a5_).ev

noncomputable def A_im_Season_isPlan : Sh := (.cons (.agg (.cons (.dat (.slice (.int .i64))) (.cons (.dat (.slice (.int .i64))) (.cons (.dat (.slice (.int .i64))) (.cons (.dat (.slice (.slice (.slice (.int .i64))))) .nil))))) (.cons (.dat (.slice (.slice (.int .i64)))) .nil))

noncomputable def I_im_Season_isPlan : List (Nat × OSh) := []

noncomputable def K_im_Season_isPlan : RetK := { acts := [], res := [.tmp 4], sh := (.cons (.dat .bool) .nil), obs := [], pins := [] }

noncomputable def D_im_Season_isPlan : FD where
  A := A_im_Season_isPlan
  ins := I_im_Season_isPlan
  lend := []
  R := Bool
  F := fun x => F_im_Season_isPlan x.1.1.1 x.1.1.2.1 x.1.1.2.2.1 x.1.1.2.2.2.1 x.1.2.1
  emb := fun r => ([.dat .bool r], [])

noncomputable def E_im_Season_isPlan : Env := envOf [(151, D_im_Season_isPossible)]

noncomputable def Z_im_Season_isPlan : Nat → Nat → List Nat := fun _ _ => []

noncomputable def O_im_Season_isPlan : List (Nat × LD) := [(0, DL_im_Season_isPlan_0)]

noncomputable def C_im_Season_isPlan : Code := (f96.body).getD .skip

/-! ### 181 loop.example/g01110/impl.IsPlan -/

noncomputable def T_im_IsPlan (a1_ : List (Int)) (a2_ : List (Int)) (a3_ : List (Int)) (a4_ : List (List (List (Int)))) (a5_ : List (List (Int))) : Tr ((Bool) × (Bool)) :=
  .c (Bool) (F_im_IsSeason a1_ a2_ a3_ a4_) fun r1_ =>
  .t (!r1_)
    (.l (false, false))
    (.c (Bool) (F_im_Season_isPlan a1_ a2_ a3_ a4_ a5_) fun r2_ =>
      .l (r2_, true))

noncomputable def F_im_IsPlan (a1_ : List (Int)) (a2_ : List (Int)) (a3_ : List (Int)) (a4_ : List (List (List (Int)))) (a5_ : List (List (Int))) : Option ((Bool) × (Bool)) := (T_im_IsPlan a1_ a2_ a3_ a4_ a5_).ev

noncomputable def A_im_IsPlan : Sh := (.cons (.agg (.cons (.dat (.slice (.int .i64))) (.cons (.dat (.slice (.int .i64))) (.cons (.dat (.slice (.int .i64))) (.cons (.dat (.slice (.slice (.slice (.int .i64))))) .nil))))) (.cons (.dat (.slice (.slice (.int .i64)))) .nil))

noncomputable def I_im_IsPlan : List (Nat × OSh) := []

noncomputable def K_im_IsPlan : RetK := { acts := [], res := [.tmp 4, .tmp 5], sh := (.cons (.dat .bool) (.cons (.dat .bool) .nil)), obs := [], pins := [] }

noncomputable def D_im_IsPlan : FD where
  A := A_im_IsPlan
  ins := I_im_IsPlan
  lend := []
  R := (Bool) × (Bool)
  F := fun x => F_im_IsPlan x.1.1.1 x.1.1.2.1 x.1.1.2.2.1 x.1.1.2.2.2.1 x.1.2.1
  emb := fun r => ([.dat .bool r.1, .dat .bool r.2], [])

noncomputable def E_im_IsPlan : Env := envOf [(69, D_im_IsSeason), (96, D_im_Season_isPlan)]

noncomputable def Z_im_IsPlan : Nat → Nat → List Nat := fun _ _ => []

noncomputable def O_im_IsPlan : List (Nat × LD) := []

noncomputable def C_im_IsPlan : Code := (f181.body).getD .skip

/-! ### 99 (loop.example/g01110/impl.Season).moves -/

noncomputable def S_im_Season_moves_0 (k : (List (List (Int))) × ((Int) × ((List (Int)) × ((List (Int)) × ((List (Int)) × (List (List (List (Int))))))))) (v : (List (Int)) × ((Int) × (List (Int)))) : Tr (((List (Int)) × ((Int) × (List (Int)))) ⊕ (List (Int))) :=
  .t (decide (v.2.1 < k.2.1))
    (.g (inR v.2.1 (List.length k.1)) <|
      .c (Int) (F_im_Season_move k.2.2.1 k.2.2.2.1 k.2.2.2.2.1 k.2.2.2.2.2 v.2.1 v.1 (List.getD k.1 (Int.toNat v.2.1) ([] : List (Int)))) fun r20_ =>
      .g (decide ((List.length v.2.2 + List.length ([r20_] : List (Int))) * 8 ≤ 140737488355328)) <|
      .l (.inl ((List.getD k.1 (Int.toNat v.2.1) ([] : List (Int))), ((IntKind.wrap .i64 (v.2.1 + (1 : Int))), (v.2.2 ++ ([r20_] : List (Int)))))))
    (.l (.inr v.2.2))

noncomputable def L_im_Season_moves_0 (k : (List (List (Int))) × ((Int) × ((List (Int)) × ((List (Int)) × ((List (Int)) × (List (List (List (Int))))))))) (v : (List (Int)) × ((Int) × (List (Int)))) : Option (List (Int)) := iter (fun v => (S_im_Season_moves_0 k v).ev) v

noncomputable def DL_im_Season_moves_0 : LD where
  head := { acts := [.fz 10], S := { slots := [2, 5, 6, 11, 12, 13], sh := (.cons (.box 2 0) (.cons (.arr 9) (.cons (.dat (.slice (.int .i64))) (.cons (.dat (.slice (.slice (.int .i64)))) (.cons (.dat (.int .i64)) (.cons (.dat (.int .i64)) .nil)))))), obs := [(2, .cells (.cons (.dat (.slice (.int .i64))) (.cons (.dat (.slice (.int .i64))) (.cons (.dat (.slice (.int .i64))) (.cons (.dat (.slice (.slice (.slice (.int .i64))))) .nil))))), (9, .arr 3 (.int .i64))] } }
  exits := [(0, { acts := [], S := { slots := [5], sh := (.cons (.arr 9) .nil), obs := [(9, .arr 3 (.int .i64))] } })]
  rets := { acts := [], S := { slots := [], sh := .nil, obs := [] } }
  K := (List (List (Int))) × ((Int) × ((List (Int)) × ((List (Int)) × ((List (Int)) × (List (List (List (Int))))))))
  V := (List (Int)) × ((Int) × (List (Int)))
  R := List (Int)
  join := fun k v => (((), ((), (v.1, (k.1, (k.2.1, (v.2.1, ())))))), ((k.2.2.1, (k.2.2.2.1, (k.2.2.2.2.1, (k.2.2.2.2.2, ())))), (v.2.2, ())))
  sk := fun t => (t.1.2.2.2.1, (t.1.2.2.2.2.1, (t.2.1.1, (t.2.1.2.1, (t.2.1.2.2.1, t.2.1.2.2.2.1)))))
  sv := fun t => (t.1.2.2.1, (t.1.2.2.2.2.2.1, t.2.2.1))
  step := S_im_Season_moves_0
  leaf := fun _ r => .l (.exit 0 (mkSt ({ slots := [5], sh := (.cons (.arr 9) .nil), obs := [(9, .arr 3 (.int .i64))] }) (((), ()), (r, ()))))

noncomputable def T_im_Season_moves (a1_ : List (Int)) (a2_ : List (Int)) (a3_ : List (Int)) (a4_ : List (List (List (Int)))) (a5_ : List (List (Int))) : Tr (List (Int)) :=
  .c (List (Int)) (L_im_Season_moves_0 (a5_, (((List.length a5_ : Nat) : Int), (a1_, (a2_, (a3_, a4_))))) (([] : List (Int)), ((0 : Int), ([] : List (Int))))) fun r22_ =>
  .l r22_

noncomputable def F_im_Season_moves (a1_ : List (Int)) (a2_ : List (Int)) (a3_ : List (Int)) (a4_ : List (List (List (Int)))) (a5_ : List (List (Int))) : Option (List (Int)) := (T_im_Season_moves a1_ a2_ a3_ a4_ a5_).ev

noncomputable def A_im_Season_moves : Sh := (.cons (.agg (.cons (.dat (.slice (.int .i64))) (.cons (.dat (.slice (.int .i64))) (.cons (.dat (.slice (.int .i64))) (.cons (.dat (.slice (.slice (.slice (.int .i64))))) .nil))))) (.cons (.dat (.slice (.slice (.int .i64)))) .nil))

noncomputable def I_im_Season_moves : List (Nat × OSh) := []

noncomputable def K_im_Season_moves : RetK := { acts := [.ren 9 0], res := [.tmp 4], sh := (.cons (.arr 0) .nil), obs := [(0, .arr 3 (.int .i64))], pins := [] }

noncomputable def D_im_Season_moves : FD where
  A := A_im_Season_moves
  ins := I_im_Season_moves
  lend := []
  R := List (Int)
  F := fun x => F_im_Season_moves x.1.1.1 x.1.1.2.1 x.1.1.2.2.1 x.1.1.2.2.2.1 x.1.2.1
  emb := fun r => ([.arr 0], [(0, .arr 3 (.int .i64) r)])

noncomputable def E_im_Season_moves : Env := envOf [(86, D_im_Season_move)]

noncomputable def Z_im_Season_moves : Nat → Nat → List Nat := fun _ _ => []

noncomputable def O_im_Season_moves : List (Nat × LD) := [(0, DL_im_Season_moves_0)]

noncomputable def C_im_Season_moves : Code := (f99.body).getD .skip

/-! ### 147 loop.example/g01110/impl.PlanMoves -/

noncomputable def T_im_PlanMoves (a1_ : List (Int)) (a2_ : List (Int)) (a3_ : List (Int)) (a4_ : List (List (List (Int)))) (a5_ : List (List (Int))) : Tr ((Bool) × (List (Int))) :=
  .c ((Bool) × (Bool)) (F_im_IsPlan a1_ a2_ a3_ a4_ a5_) fun r1_ =>
  .t (!r1_.1)
    (.l (false, ([] : List (Int))))
    (.c (List (Int)) (F_im_Season_moves a1_ a2_ a3_ a4_ a5_) fun r2_ =>
      .l (true, r2_))

noncomputable def F_im_PlanMoves (a1_ : List (Int)) (a2_ : List (Int)) (a3_ : List (Int)) (a4_ : List (List (List (Int)))) (a5_ : List (List (Int))) : Option ((Bool) × (List (Int))) := (T_im_PlanMoves a1_ a2_ a3_ a4_ a5_).ev

noncomputable def A_im_PlanMoves : Sh := (.cons (.agg (.cons (.dat (.slice (.int .i64))) (.cons (.dat (.slice (.int .i64))) (.cons (.dat (.slice (.int .i64))) (.cons (.dat (.slice (.slice (.slice (.int .i64))))) .nil))))) (.cons (.dat (.slice (.slice (.int .i64)))) .nil))

noncomputable def I_im_PlanMoves : List (Nat × OSh) := []

noncomputable def K_im_PlanMoves : RetK := { acts := [.own 4 0 3 (.int .i64), .ren 1152 0], res := [.tmp 4, .tmp 5], sh := (.cons (.arr 0) (.cons (.dat .bool) .nil)), obs := [(0, .arr 3 (.int .i64))], pins := [] }

noncomputable def D_im_PlanMoves : FD where
  A := A_im_PlanMoves
  ins := I_im_PlanMoves
  lend := []
  R := (Bool) × (List (Int))
  F := fun x => F_im_PlanMoves x.1.1.1 x.1.1.2.1 x.1.1.2.2.1 x.1.1.2.2.2.1 x.1.2.1
  emb := fun r => ([.arr 0, .dat .bool r.1], [(0, .arr 3 (.int .i64) r.2)])

noncomputable def E_im_PlanMoves : Env := envOf [(181, D_im_IsPlan), (99, D_im_Season_moves)]

noncomputable def Z_im_PlanMoves : Nat → Nat → List Nat := fun _ _ => []

noncomputable def O_im_PlanMoves : List (Nat × LD) := []

noncomputable def C_im_PlanMoves : Code := (f147.body).getD .skip

/-! ### 78 loop.example/g01110/impl.PlanCost -/

noncomputable def T_im_PlanCost (a1_ : List (Int)) (a2_ : List (Int)) (a3_ : List (Int)) (a4_ : List (List (List (Int)))) (a5_ : List (List (Int))) : Tr ((Int) × (Bool)) :=
  .c ((Bool) × (List (Int))) (F_im_PlanMoves a1_ a2_ a3_ a4_ a5_) fun r1_ =>
  .c (Int) (F_im_sum r1_.2) fun r2_ =>
  .l (r2_, r1_.1)

noncomputable def F_im_PlanCost (a1_ : List (Int)) (a2_ : List (Int)) (a3_ : List (Int)) (a4_ : List (List (List (Int)))) (a5_ : List (List (Int))) : Option ((Int) × (Bool)) := (T_im_PlanCost a1_ a2_ a3_ a4_ a5_).ev

noncomputable def A_im_PlanCost : Sh := (.cons (.agg (.cons (.dat (.slice (.int .i64))) (.cons (.dat (.slice (.int .i64))) (.cons (.dat (.slice (.int .i64))) (.cons (.dat (.slice (.slice (.slice (.int .i64))))) .nil))))) (.cons (.dat (.slice (.slice (.int .i64)))) .nil))

noncomputable def I_im_PlanCost : List (Nat × OSh) := []

noncomputable def K_im_PlanCost : RetK := { acts := [], res := [.tmp 4, .tmp 5], sh := (.cons (.dat (.int .i64)) (.cons (.dat .bool) .nil)), obs := [], pins := [] }

noncomputable def D_im_PlanCost : FD where
  A := A_im_PlanCost
  ins := I_im_PlanCost
  lend := []
  R := (Int) × (Bool)
  F := fun x => F_im_PlanCost x.1.1.1 x.1.1.2.1 x.1.1.2.2.1 x.1.1.2.2.2.1 x.1.2.1
  emb := fun r => ([.dat (.int .i64) r.1, .dat .bool r.2], [])

noncomputable def E_im_PlanCost : Env := envOf [(147, D_im_PlanMoves), (98, D_im_sum)]

noncomputable def Z_im_PlanCost : Nat → Nat → List Nat := fun _ _ => []

noncomputable def O_im_PlanCost : List (Nat × LD) := []

noncomputable def C_im_PlanCost : Code := (f78.body).getD .skip

/-! ### 24 loop.example/g01110/impl.PlanProof -/

noncomputable def T_im_PlanProof (a1_ : List (Int)) (a2_ : List (Int)) (a3_ : List (Int)) (a4_ : List (List (List (Int)))) (a5_ : List (List (Int))) (a6_ : List (List (Int))) : Tr ((Bool) × (Bool)) :=
  .c ((Int) × (Bool)) (F_im_PlanCost a1_ a2_ a3_ a4_ a5_) fun r1_ =>
  .t (!r1_.2)
    (.l (false, false))
    (.c (Bool) (F_im_Season_arePotentials a1_ a2_ a3_ a4_ a6_) fun r2_ =>
      .t r2_
        (.g (inR (0 : Int) (List.length a6_)) <|
          .g (inR (0 : Int) (List.length (List.getD a6_ (Int.toNat (0 : Int)) ([] : List (Int))))) <|
          .l (((List.getD (List.getD a6_ (Int.toNat (0 : Int)) ([] : List (Int))) (Int.toNat (0 : Int)) (0 : Int)) == r1_.1), true))
        (.l (false, true)))

noncomputable def F_im_PlanProof (a1_ : List (Int)) (a2_ : List (Int)) (a3_ : List (Int)) (a4_ : List (List (List (Int)))) (a5_ : List (List (Int))) (a6_ : List (List (Int))) : Option ((Bool) × (Bool)) := (T_im_PlanProof a1_ a2_ a3_ a4_ a5_ a6_).ev

noncomputable def A_im_PlanProof : Sh := (.cons (.agg (.cons (.dat (.slice (.int .i64))) (.cons (.dat (.slice (.int .i64))) (.cons (.dat (.slice (.int .i64))) (.cons (.dat (.slice (.slice (.slice (.int .i64))))) .nil))))) (.cons (.dat (.slice (.slice (.int .i64)))) (.cons (.dat (.slice (.slice (.int .i64)))) .nil)))

noncomputable def I_im_PlanProof : List (Nat × OSh) := []

noncomputable def K_im_PlanProof : RetK := { acts := [], res := [.tmp 6, .tmp 7], sh := (.cons (.dat .bool) (.cons (.dat .bool) .nil)), obs := [], pins := [] }

noncomputable def D_im_PlanProof : FD where
  A := A_im_PlanProof
  ins := I_im_PlanProof
  lend := []
  R := (Bool) × (Bool)
  F := fun x => F_im_PlanProof x.1.1.1 x.1.1.2.1 x.1.1.2.2.1 x.1.1.2.2.2.1 x.1.2.1 x.1.2.2.1
  emb := fun r => ([.dat .bool r.1, .dat .bool r.2], [])

noncomputable def E_im_PlanProof : Env := envOf [(78, D_im_PlanCost), (74, D_im_Season_arePotentials)]

noncomputable def Z_im_PlanProof : Nat → Nat → List Nat := fun _ _ => []

noncomputable def O_im_PlanProof : List (Nat × LD) := []

noncomputable def C_im_PlanProof : Code := (f24.body).getD .skip

/-! ### 5 loop.example/g01110/laws.FnExactPlanProof -/

noncomputable def T_lw_FnExactPlanProof (a1_ : List (Int)) (a2_ : List (Int)) (a3_ : List (Int)) (a4_ : List (List (List (Int)))) (a5_ : List (List (Int))) (a6_ : List (List (Int))) : Tr (Bool) :=
  .c (Int) (F_lw_szSeason a1_ a2_ a3_ a4_ (1048576 : Int)) fun r1_ =>
  .t (decide (r1_ < (0 : Int)))
    (.l true)
    (.c (Int) (F_lw_szIntSS a5_ r1_) fun r2_ =>
      .t (decide (r2_ < (0 : Int)))
        (.l true)
        (.c (Int) (F_lw_szIntSS a6_ r2_) fun r3_ =>
          .t (decide (r3_ < (0 : Int)))
            (.l true)
            (.c ((List (Int)) × ((List (Int)) × ((List (Int)) × (List (List (List (Int))))))) (F_lw_toSeason a1_ a2_ a3_ a4_) fun r4_ =>
              .c (List (List (Int))) (F_lw_toIntSS a5_) fun r5_ =>
              .c (List (List (Int))) (F_lw_toIntSS a6_) fun r6_ =>
              .c ((Bool) × (Bool)) (F_sp_PlanProof r4_.1 r4_.2.1 r4_.2.2.1 r4_.2.2.2 r5_ r6_) fun r7_ =>
              .c ((List (Int)) × ((List (Int)) × ((List (Int)) × (List (List (List (Int))))))) (F_lw_toSeason a1_ a2_ a3_ a4_) fun r8_ =>
              .c (List (List (Int))) (F_lw_toIntSS a5_) fun r9_ =>
              .c (List (List (Int))) (F_lw_toIntSS a6_) fun r10_ =>
              .c ((Bool) × (Bool)) (F_im_PlanProof r8_.1 r8_.2.1 r8_.2.2.1 r8_.2.2.2 r9_ r10_) fun r11_ =>
              .t (!(r11_.1 == r7_.1))
                (.l false)
                (.t (!(r11_.2 == r7_.2))
                    (.l false)
                    (.c ((List (Int)) × ((List (Int)) × ((List (Int)) × (List (List (List (Int))))))) (F_lw_toSeason a1_ a2_ a3_ a4_) fun r12_ =>
                      .c (Bool) (F_lw_eqSeason r8_.1 r8_.2.1 r8_.2.2.1 r8_.2.2.2 r12_.1 r12_.2.1 r12_.2.2.1 r12_.2.2.2) fun r13_ =>
                      .t (!r13_)
                        (.l false)
                        (.c (List (List (Int))) (F_lw_toIntSS a5_) fun r14_ =>
                          .c (Bool) (F_lw_eqIntSS r9_ r14_) fun r15_ =>
                          .t (!r15_)
                            (.l false)
                            (.c (List (List (Int))) (F_lw_toIntSS a6_) fun r16_ =>
                              .c (Bool) (F_lw_eqIntSS r10_ r16_) fun r17_ =>
                              .t (!r17_)
                                (.l false)
                                (.l true))))))))

noncomputable def F_lw_FnExactPlanProof (a1_ : List (Int)) (a2_ : List (Int)) (a3_ : List (Int)) (a4_ : List (List (List (Int)))) (a5_ : List (List (Int))) (a6_ : List (List (Int))) : Option (Bool) := (T_lw_FnExactPlanProof a1_ a2_ a3_ a4_ a5_ a6_).ev

noncomputable def A_lw_FnExactPlanProof : Sh := (.cons (.agg (.cons (.dat (.slice (.int .i64))) (.cons (.dat (.slice (.int .i64))) (.cons (.dat (.slice (.int .i64))) (.cons (.dat (.slice (.slice (.slice (.int .i64))))) .nil))))) (.cons (.dat (.slice (.slice (.int .i64)))) (.cons (.dat (.slice (.slice (.int .i64)))) .nil)))

noncomputable def I_lw_FnExactPlanProof : List (Nat × OSh) := []

noncomputable def K_lw_FnExactPlanProof : RetK := { acts := [], res := [.tmp 6], sh := (.cons (.dat .bool) .nil), obs := [], pins := [] }

noncomputable def D_lw_FnExactPlanProof : FD where
  A := A_lw_FnExactPlanProof
  ins := I_lw_FnExactPlanProof
  lend := []
  R := Bool
  F := fun x => F_lw_FnExactPlanProof x.1.1.1 x.1.1.2.1 x.1.1.2.2.1 x.1.1.2.2.2.1 x.1.2.1 x.1.2.2.1
  emb := fun r => ([.dat .bool r], [])

noncomputable def E_lw_FnExactPlanProof : Env := envOf [(13, D_lw_szSeason), (18, D_lw_szIntSS), (15, D_lw_toSeason), (20, D_lw_toIntSS), (23, D_sp_PlanProof), (24, D_im_PlanProof), (17, D_lw_eqSeason), (22, D_lw_eqIntSS)]

noncomputable def Z_lw_FnExactPlanProof : Nat → Nat → List Nat := fun _ _ => []

noncomputable def O_lw_FnExactPlanProof : List (Nat × LD) := []

noncomputable def C_lw_FnExactPlanProof : Code := (f5.body).getD .skip
end Go.Proofs.Ytlmbhkmaflhagaa
