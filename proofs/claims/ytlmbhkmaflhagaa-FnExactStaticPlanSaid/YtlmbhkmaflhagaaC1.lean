import Derived.Test.YtlmbhkmaflhagaaC3
import Derived.Test.YtlmbhkmaflhagaaProg
namespace Go.Proofs.Ytlmbhkmaflhagaa
open Go.Proofs.Try
noncomputable def S_im_Field_server_0 (k : (Int) × ((List (Int)) × ((Int) × ((List (Int)) × (List (List (Int))))))) (v : (Int) × (Int)) : Tr (((Int) × (Int)) ⊕ (Int)) :=
 .t (decide (v.2 < k.2.2.1))
  (.g (inR v.2 (List.length k.2.1)) <|
   .g (inR k.1 (List.length k.2.2.2.2)) <|
   .g (inR (List.getD k.2.1 (Int.toNat v.2) (0 : Int)) (List.length (List.getD k.2.2.2.2 (Int.toNat k.1) ([] : List (Int))))) <|
   .g (inR k.1 (List.length k.2.2.2.2)) <|
   .g (inR v.1 (List.length (List.getD k.2.2.2.2 (Int.toNat k.1) ([] : List (Int))))) <|
   .t (decide ((List.getD (List.getD k.2.2.2.2 (Int.toNat k.1) ([] : List (Int))) (Int.toNat (List.getD k.2.1 (Int.toNat v.2) (0 : Int))) (0 : Int)) < (List.getD (List.getD k.2.2.2.2 (Int.toNat k.1) ([] : List (Int))) (Int.toNat v.1) (0 : Int))))
    (.l (.inl ((List.getD k.2.1 (Int.toNat v.2) (0 : Int)), (IntKind.wrap .i64 (v.2 + (1 : Int))))))
    (.l (.inl (v.1, (IntKind.wrap .i64 (v.2 + (1 : Int)))))))
  (.l (.inr v.1))
noncomputable def L_im_Field_server_0 (k : (Int) × ((List (Int)) × ((Int) × ((List (Int)) × (List (List (Int))))))) (v : (Int) × (Int)) : Option (Int) := iter (fun v => (S_im_Field_server_0 k v).ev) v
noncomputable def DL_im_Field_server_0 : LD where
 head := { acts := [], S := { slots := [1, 3, 7, 13, 14, 15], sh := (.cons (.dat (.int .i64)) (.cons (.box 3 0) (.cons (.dat (.int .i64)) (.cons (.dat (.slice (.int .i64))) (.cons (.dat (.int .i64)) (.cons (.dat (.int .i64)) .nil)))))), obs := [(3, .cells (.cons (.dat (.slice (.int .i64))) (.cons (.dat (.slice (.slice (.int .i64)))) .nil)))] } }
 exits := [(0, { acts := [], S := { slots := [7], sh := (.cons (.dat (.int .i64)) .nil), obs := [] } })]
 rets := { acts := [], S := { slots := [], sh := .nil, obs := [] } }
 K := (Int) × ((List (Int)) × ((Int) × ((List (Int)) × (List (List (Int))))))
 V := (Int) × (Int)
 R := Int
 join := fun k v => ((k.1, ((), (v.1, (k.2.1, (k.2.2.1, (v.2, ())))))), ((k.2.2.2.1, (k.2.2.2.2, ())), ()))
 sk := fun t => (t.1.1, (t.1.2.2.2.1, (t.1.2.2.2.2.1, (t.2.1.1, t.2.1.2.1))))
 sv := fun t => (t.1.2.2.1, t.1.2.2.2.2.2.1)
 step := S_im_Field_server_0
 leaf := fun _ r => .l (.exit 0 (mkSt ({ slots := [7], sh := (.cons (.dat (.int .i64)) .nil), obs := [] }) ((r, ()), ())))
noncomputable def T_im_Field_server (a1_ : List (Int)) (a2_ : List (List (Int))) (a3_ : Int) (a4_ : List (Int)) : Tr (Int) :=
 .g (inR (0 : Int) (List.length a4_)) <|
 .c (Int) (L_im_Field_server_0 (a3_, (a4_, (((List.length a4_ : Nat) : Int), (a1_, a2_)))) ((List.getD a4_ (Int.toNat (0 : Int)) (0 : Int)), (0 : Int))) fun r9_ =>
 .l r9_
noncomputable def F_im_Field_server (a1_ : List (Int)) (a2_ : List (List (Int))) (a3_ : Int) (a4_ : List (Int)) : Option (Int) := (T_im_Field_server a1_ a2_ a3_ a4_).ev
noncomputable def A_im_Field_server : Sh := (.cons (.agg (.cons (.dat (.slice (.int .i64))) (.cons (.dat (.slice (.slice (.int .i64)))) .nil))) (.cons (.dat (.int .i64)) (.cons (.dat (.slice (.int .i64))) .nil)))
noncomputable def I_im_Field_server : List (Nat × OSh) := []
noncomputable def K_im_Field_server : RetK := { acts := [], res := [.tmp 6], sh := (.cons (.dat (.int .i64)) .nil), obs := [], pins := [] }
noncomputable def D_im_Field_server : FD where
 A := A_im_Field_server
 ins := I_im_Field_server
 lend := []
 R := Int
 F := fun x => F_im_Field_server x.1.1.1 x.1.1.2.1 x.1.2.1 x.1.2.2.1
 emb := fun r => ([.dat (.int .i64) r], [])
noncomputable def E_im_Field_server : Env := envOf []
noncomputable def Z_im_Field_server : Nat → Nat → List Nat := fun _ _ => []
noncomputable def O_im_Field_server : List (Nat × LD) := [(0, DL_im_Field_server_0)]
noncomputable def C_im_Field_server : Code := (f172.body).getD .skip
noncomputable def S_im_Field_served_0 (k : (List (Int)) × ((Int) × ((List (Int)) × (List (List (Int)))))) (v : (Int) × (List (Int))) : Tr (((Int) × (List (Int))) ⊕ (List (Int))) :=
 .t (decide (v.1 < k.2.1))
  (.c (Int) (F_im_Field_server k.2.2.1 k.2.2.2 v.1 k.1) fun r7_ =>
   .g (decide ((List.length v.2 + List.length ([r7_] : List (Int))) * 8 ≤ 140737488355328)) <|
   .l (.inl ((IntKind.wrap .i64 (v.1 + (1 : Int))), (v.2 ++ ([r7_] : List (Int))))))
  (.l (.inr v.2))
noncomputable def L_im_Field_served_0 (k : (List (Int)) × ((Int) × ((List (Int)) × (List (List (Int)))))) (v : (Int) × (List (Int))) : Option (List (Int)) := iter (fun v => (S_im_Field_served_0 k v).ev) v
noncomputable def DL_im_Field_served_0 : LD where
 head := { acts := [], S := { slots := [1, 2, 5, 10, 11], sh := (.cons (.dat (.slice (.int .i64))) (.cons (.box 2 0) (.cons (.arr 7) (.cons (.dat (.int .i64)) (.cons (.dat (.int .i64)) .nil))))), obs := [(2, .cells (.cons (.dat (.slice (.int .i64))) (.cons (.dat (.slice (.slice (.int .i64)))) .nil))), (7, .arr 3 (.int .i64))] } }
 exits := [(0, { acts := [], S := { slots := [5], sh := (.cons (.arr 7) .nil), obs := [(7, .arr 3 (.int .i64))] } })]
 rets := { acts := [], S := { slots := [], sh := .nil, obs := [] } }
 K := (List (Int)) × ((Int) × ((List (Int)) × (List (List (Int)))))
 V := (Int) × (List (Int))
 R := List (Int)
 join := fun k v => ((k.1, ((), ((), (k.2.1, (v.1, ()))))), ((k.2.2.1, (k.2.2.2, ())), (v.2, ())))
 sk := fun t => (t.1.1, (t.1.2.2.2.1, (t.2.1.1, t.2.1.2.1)))
 sv := fun t => (t.1.2.2.2.2.1, t.2.2.1)
 step := S_im_Field_served_0
 leaf := fun _ r => .l (.exit 0 (mkSt ({ slots := [5], sh := (.cons (.arr 7) .nil), obs := [(7, .arr 3 (.int .i64))] }) (((), ()), (r, ()))))
noncomputable def T_im_Field_served (a1_ : List (Int)) (a2_ : List (List (Int))) (a3_ : List (Int)) : Tr (List (Int)) :=
 .c (List (Int)) (L_im_Field_served_0 (a3_, (((List.length a2_ : Nat) : Int), (a1_, a2_))) ((0 : Int), ([] : List (Int)))) fun r9_ =>
 .l r9_
noncomputable def F_im_Field_served (a1_ : List (Int)) (a2_ : List (List (Int))) (a3_ : List (Int)) : Option (List (Int)) := (T_im_Field_served a1_ a2_ a3_).ev
noncomputable def A_im_Field_served : Sh := (.cons (.agg (.cons (.dat (.slice (.int .i64))) (.cons (.dat (.slice (.slice (.int .i64)))) .nil))) (.cons (.dat (.slice (.int .i64))) .nil))
noncomputable def I_im_Field_served : List (Nat × OSh) := []
noncomputable def K_im_Field_served : RetK := { acts := [.ren 7 0], res := [.tmp 4], sh := (.cons (.arr 0) .nil), obs := [(0, .arr 3 (.int .i64))], pins := [] }
noncomputable def D_im_Field_served : FD where
 A := A_im_Field_served
 ins := I_im_Field_served
 lend := []
 R := List (Int)
 F := fun x => F_im_Field_served x.1.1.1 x.1.1.2.1 x.1.2.1
 emb := fun r => ([.arr 0], [(0, .arr 3 (.int .i64) r)])
noncomputable def E_im_Field_served : Env := envOf [(172, D_im_Field_server)]
noncomputable def Z_im_Field_served : Nat → Nat → List Nat := fun _ _ => []
noncomputable def O_im_Field_served : List (Nat × LD) := [(0, DL_im_Field_served_0)]
noncomputable def C_im_Field_served : Code := (f127.body).getD .skip
noncomputable def S_im_Field_lengths_0 (k : (Int) × ((List (Int)) × ((List (List (Int))) × (List (Int))))) (v : (Int) × (List (Int))) : Tr (((Int) × (List (Int))) ⊕ (List (Int))) :=
 .t (decide (v.1 < k.1))
  (.g (inR v.1 (List.length k.2.2.2)) <|
   .g (decide ((Int.toNat v.1) < List.length k.2.2.2)) <|
   .g (inR v.1 (List.length k.2.2.1)) <|
   .g (inR (List.getD k.2.2.2 (Int.toNat v.1) (0 : Int)) (List.length (List.getD k.2.2.1 (Int.toNat v.1) ([] : List (Int))))) <|
   .g (decide ((List.length v.2 + List.length ([(List.getD (List.getD k.2.2.1 (Int.toNat v.1) ([] : List (Int))) (Int.toNat (List.getD k.2.2.2 (Int.toNat v.1) (0 : Int))) (0 : Int))] : List (Int))) * 8 ≤ 140737488355328)) <|
   .l (.inl ((IntKind.wrap .i64 (v.1 + (1 : Int))), (v.2 ++ ([(List.getD (List.getD k.2.2.1 (Int.toNat v.1) ([] : List (Int))) (Int.toNat (List.getD k.2.2.2 (Int.toNat v.1) (0 : Int))) (0 : Int))] : List (Int))))))
  (.l (.inr v.2))
noncomputable def L_im_Field_lengths_0 (k : (Int) × ((List (Int)) × ((List (List (Int))) × (List (Int))))) (v : (Int) × (List (Int))) : Option (List (Int)) := iter (fun v => (S_im_Field_lengths_0 k v).ev) v
noncomputable def DL_im_Field_lengths_0 : LD where
 head := { acts := [], S := { slots := [2, 5, 11, 12, 13], sh := (.cons (.box 2 0) (.cons (.arr 8) (.cons (.arr 704) (.cons (.dat (.int .i64)) (.cons (.dat (.int .i64)) .nil))))), obs := [(2, .cells (.cons (.dat (.slice (.int .i64))) (.cons (.dat (.slice (.slice (.int .i64)))) .nil))), (8, .arr 3 (.int .i64)), (704, .arr 3 (.int .i64))] } }
 exits := [(0, { acts := [], S := { slots := [5], sh := (.cons (.arr 8) .nil), obs := [(8, .arr 3 (.int .i64))] } })]
 rets := { acts := [], S := { slots := [], sh := .nil, obs := [] } }
 K := (Int) × ((List (Int)) × ((List (List (Int))) × (List (Int))))
 V := (Int) × (List (Int))
 R := List (Int)
 join := fun k v => (((), ((), ((), (k.1, (v.1, ()))))), ((k.2.1, (k.2.2.1, ())), (v.2, (k.2.2.2, ()))))
 sk := fun t => (t.1.2.2.2.1, (t.2.1.1, (t.2.1.2.1, t.2.2.2.1)))
 sv := fun t => (t.1.2.2.2.2.1, t.2.2.1)
 step := S_im_Field_lengths_0
 leaf := fun _ r => .l (.exit 0 (mkSt ({ slots := [5], sh := (.cons (.arr 8) .nil), obs := [(8, .arr 3 (.int .i64))] }) (((), ()), (r, ()))))
noncomputable def T_im_Field_lengths (a1_ : List (Int)) (a2_ : List (List (Int))) (a3_ : List (Int)) : Tr (List (Int)) :=
 .c (List (Int)) (F_im_Field_served a1_ a2_ a3_) fun r1_ =>
 .c (List (Int)) (L_im_Field_lengths_0 (((List.length r1_ : Nat) : Int), (a1_, (a2_, r1_))) ((0 : Int), ([] : List (Int)))) fun r9_ =>
 .l r9_
noncomputable def F_im_Field_lengths (a1_ : List (Int)) (a2_ : List (List (Int))) (a3_ : List (Int)) : Option (List (Int)) := (T_im_Field_lengths a1_ a2_ a3_).ev
noncomputable def A_im_Field_lengths : Sh := (.cons (.agg (.cons (.dat (.slice (.int .i64))) (.cons (.dat (.slice (.slice (.int .i64)))) .nil))) (.cons (.dat (.slice (.int .i64))) .nil))
noncomputable def I_im_Field_lengths : List (Nat × OSh) := []
noncomputable def K_im_Field_lengths : RetK := { acts := [.ren 8 0], res := [.tmp 4], sh := (.cons (.arr 0) .nil), obs := [(0, .arr 3 (.int .i64))], pins := [] }
noncomputable def D_im_Field_lengths : FD where
 A := A_im_Field_lengths
 ins := I_im_Field_lengths
 lend := []
 R := List (Int)
 F := fun x => F_im_Field_lengths x.1.1.1 x.1.1.2.1 x.1.2.1
 emb := fun r => ([.arr 0], [(0, .arr 3 (.int .i64) r)])
noncomputable def E_im_Field_lengths : Env := envOf [(127, D_im_Field_served)]
noncomputable def Z_im_Field_lengths : Nat → Nat → List Nat := fun _ _ => []
noncomputable def O_im_Field_lengths : List (Nat × LD) := [(0, DL_im_Field_lengths_0)]
noncomputable def C_im_Field_lengths : Code := (f156.body).getD .skip
noncomputable def S_im_sum_0 (k : (List (Int)) × (Int)) (v : (Int) × (Int)) : Tr (((Int) × (Int)) ⊕ (Int)) :=
 .t (decide (v.2 < k.2))
  (.g (inR v.2 (List.length k.1)) <|
   .l (.inl ((IntKind.wrap .i64 (v.1 + (List.getD k.1 (Int.toNat v.2) (0 : Int)))), (IntKind.wrap .i64 (v.2 + (1 : Int))))))
  (.l (.inr v.1))
noncomputable def L_im_sum_0 (k : (List (Int)) × (Int)) (v : (Int) × (Int)) : Option (Int) := iter (fun v => (S_im_sum_0 k v).ev) v
noncomputable def DL_im_sum_0 : LD where
 head := { acts := [], S := { slots := [3, 6, 7, 8], sh := (.cons (.dat (.int .i64)) (.cons (.dat (.slice (.int .i64))) (.cons (.dat (.int .i64)) (.cons (.dat (.int .i64)) .nil)))), obs := [] } }
 exits := [(0, { acts := [], S := { slots := [3], sh := (.cons (.dat (.int .i64)) .nil), obs := [] } })]
 rets := { acts := [], S := { slots := [], sh := .nil, obs := [] } }
 K := (List (Int)) × (Int)
 V := (Int) × (Int)
 R := Int
 join := fun k v => ((v.1, (k.1, (k.2, (v.2, ())))), ())
 sk := fun t => (t.1.2.1, t.1.2.2.1)
 sv := fun t => (t.1.1, t.1.2.2.2.1)
 step := S_im_sum_0
 leaf := fun _ r => .l (.exit 0 (mkSt ({ slots := [3], sh := (.cons (.dat (.int .i64)) .nil), obs := [] }) ((r, ()), ())))
noncomputable def T_im_sum (a1_ : List (Int)) : Tr (Int) :=
 .c (Int) (L_im_sum_0 (a1_, ((List.length a1_ : Nat) : Int)) ((0 : Int), (0 : Int))) fun r6_ =>
 .l r6_
noncomputable def F_im_sum (a1_ : List (Int)) : Option (Int) := (T_im_sum a1_).ev
noncomputable def A_im_sum : Sh := (.cons (.dat (.slice (.int .i64))) .nil)
noncomputable def I_im_sum : List (Nat × OSh) := []
noncomputable def K_im_sum : RetK := { acts := [], res := [.tmp 2], sh := (.cons (.dat (.int .i64)) .nil), obs := [], pins := [] }
noncomputable def D_im_sum : FD where
 A := A_im_sum
 ins := I_im_sum
 lend := []
 R := Int
 F := fun x => F_im_sum x.1.1
 emb := fun r => ([.dat (.int .i64) r], [])
noncomputable def E_im_sum : Env := envOf []
noncomputable def Z_im_sum : Nat → Nat → List Nat := fun _ _ => []
noncomputable def O_im_sum : List (Nat × LD) := [(0, DL_im_sum_0)]
noncomputable def C_im_sum : Code := (f98.body).getD .skip
noncomputable def T_im_Field_service (a1_ : List (Int)) (a2_ : List (List (Int))) (a3_ : List (Int)) : Tr (Int) :=
 .c (List (Int)) (F_im_Field_lengths a1_ a2_ a3_) fun r1_ =>
 .c (Int) (F_im_sum r1_) fun r2_ =>
 .l r2_
noncomputable def F_im_Field_service (a1_ : List (Int)) (a2_ : List (List (Int))) (a3_ : List (Int)) : Option (Int) := (T_im_Field_service a1_ a2_ a3_).ev
noncomputable def A_im_Field_service : Sh := (.cons (.agg (.cons (.dat (.slice (.int .i64))) (.cons (.dat (.slice (.slice (.int .i64)))) .nil))) (.cons (.dat (.slice (.int .i64))) .nil))
noncomputable def I_im_Field_service : List (Nat × OSh) := []
noncomputable def K_im_Field_service : RetK := { acts := [], res := [.tmp 4], sh := (.cons (.dat (.int .i64)) .nil), obs := [], pins := [] }
noncomputable def D_im_Field_service : FD where
 A := A_im_Field_service
 ins := I_im_Field_service
 lend := []
 R := Int
 F := fun x => F_im_Field_service x.1.1.1 x.1.1.2.1 x.1.2.1
 emb := fun r => ([.dat (.int .i64) r], [])
noncomputable def E_im_Field_service : Env := envOf [(156, D_im_Field_lengths), (98, D_im_sum)]
noncomputable def Z_im_Field_service : Nat → Nat → List Nat := fun _ _ => []
noncomputable def O_im_Field_service : List (Nat × LD) := []
noncomputable def C_im_Field_service : Code := (f110.body).getD .skip
noncomputable def S_im_Season_move_0 (k : (Int) × ((List (Int)) × ((Int) × ((Int) × ((Int) × ((List (Int)) × ((List (Int)) × ((List (Int)) × (List (List (List (Int)))))))))))) (v : (Int) × (Int)) : Tr (((Int) × (Int)) ⊕ (Int)) :=
 .t (decide (v.2 < k.2.2.2.2.1))
  (.c (Bool) (F_im_bag_has k.2.2.2.1 v.2) fun r14_ =>
   .t r14_
    (.c (Bool) (F_im_bag_has k.2.2.1 v.2) fun r15_ =>
     .t (!r15_)
      (.g (inR v.2 (List.length k.2.2.2.2.2.1)) <|
       .c (Bool) (F_im_bag_has k.2.2.2.1 v.2) fun r16_ =>
       .t r16_
        (.g (inR v.2 (List.length k.2.2.2.2.2.2.2.1)) <|
         .l (.inl ((IntKind.wrap .i64 ((IntKind.wrap .i64 (v.1 + (List.getD k.2.2.2.2.2.1 (Int.toNat v.2) (0 : Int)))) + (List.getD k.2.2.2.2.2.2.2.1 (Int.toNat v.2) (0 : Int)))), (IntKind.wrap .i64 (v.2 + (1 : Int))))))
        (.l (.inl ((IntKind.wrap .i64 (v.1 + (List.getD k.2.2.2.2.2.1 (Int.toNat v.2) (0 : Int)))), (IntKind.wrap .i64 (v.2 + (1 : Int)))))))
      (.c (Bool) (F_im_bag_has k.2.2.1 v.2) fun r17_ =>
       .t r17_
        (.c (Bool) (F_im_bag_has k.2.2.2.1 v.2) fun r18_ =>
         .t (!r18_)
          (.g (inR v.2 (List.length k.2.2.2.2.2.2.1)) <|
           .c (Bool) (F_im_bag_has k.2.2.2.1 v.2) fun r19_ =>
           .t r19_
            (.g (inR v.2 (List.length k.2.2.2.2.2.2.2.1)) <|
             .l (.inl ((IntKind.wrap .i64 ((IntKind.wrap .i64 (v.1 + (List.getD k.2.2.2.2.2.2.1 (Int.toNat v.2) (0 : Int)))) + (List.getD k.2.2.2.2.2.2.2.1 (Int.toNat v.2) (0 : Int)))), (IntKind.wrap .i64 (v.2 + (1 : Int))))))
            (.l (.inl ((IntKind.wrap .i64 (v.1 + (List.getD k.2.2.2.2.2.2.1 (Int.toNat v.2) (0 : Int)))), (IntKind.wrap .i64 (v.2 + (1 : Int)))))))
          (.c (Bool) (F_im_bag_has k.2.2.2.1 v.2) fun r20_ =>
           .t r20_
            (.g (inR v.2 (List.length k.2.2.2.2.2.2.2.1)) <|
             .l (.inl ((IntKind.wrap .i64 (v.1 + (List.getD k.2.2.2.2.2.2.2.1 (Int.toNat v.2) (0 : Int)))), (IntKind.wrap .i64 (v.2 + (1 : Int))))))
            (.l (.inl (v.1, (IntKind.wrap .i64 (v.2 + (1 : Int))))))))
        (.c (Bool) (F_im_bag_has k.2.2.2.1 v.2) fun r21_ =>
         .t r21_
          (.g (inR v.2 (List.length k.2.2.2.2.2.2.2.1)) <|
           .l (.inl ((IntKind.wrap .i64 (v.1 + (List.getD k.2.2.2.2.2.2.2.1 (Int.toNat v.2) (0 : Int)))), (IntKind.wrap .i64 (v.2 + (1 : Int))))))
          (.l (.inl (v.1, (IntKind.wrap .i64 (v.2 + (1 : Int)))))))))
    (.c (Bool) (F_im_bag_has k.2.2.1 v.2) fun r22_ =>
     .t r22_
      (.c (Bool) (F_im_bag_has k.2.2.2.1 v.2) fun r23_ =>
       .t (!r23_)
        (.g (inR v.2 (List.length k.2.2.2.2.2.2.1)) <|
         .c (Bool) (F_im_bag_has k.2.2.2.1 v.2) fun r24_ =>
         .t r24_
          (.g (inR v.2 (List.length k.2.2.2.2.2.2.2.1)) <|
           .l (.inl ((IntKind.wrap .i64 ((IntKind.wrap .i64 (v.1 + (List.getD k.2.2.2.2.2.2.1 (Int.toNat v.2) (0 : Int)))) + (List.getD k.2.2.2.2.2.2.2.1 (Int.toNat v.2) (0 : Int)))), (IntKind.wrap .i64 (v.2 + (1 : Int))))))
          (.l (.inl ((IntKind.wrap .i64 (v.1 + (List.getD k.2.2.2.2.2.2.1 (Int.toNat v.2) (0 : Int)))), (IntKind.wrap .i64 (v.2 + (1 : Int)))))))
        (.c (Bool) (F_im_bag_has k.2.2.2.1 v.2) fun r25_ =>
         .t r25_
          (.g (inR v.2 (List.length k.2.2.2.2.2.2.2.1)) <|
           .l (.inl ((IntKind.wrap .i64 (v.1 + (List.getD k.2.2.2.2.2.2.2.1 (Int.toNat v.2) (0 : Int)))), (IntKind.wrap .i64 (v.2 + (1 : Int))))))
          (.l (.inl (v.1, (IntKind.wrap .i64 (v.2 + (1 : Int))))))))
      (.c (Bool) (F_im_bag_has k.2.2.2.1 v.2) fun r26_ =>
       .t r26_
        (.g (inR v.2 (List.length k.2.2.2.2.2.2.2.1)) <|
         .l (.inl ((IntKind.wrap .i64 (v.1 + (List.getD k.2.2.2.2.2.2.2.1 (Int.toNat v.2) (0 : Int)))), (IntKind.wrap .i64 (v.2 + (1 : Int))))))
        (.l (.inl (v.1, (IntKind.wrap .i64 (v.2 + (1 : Int)))))))))
  (.l (.inr v.1))
noncomputable def L_im_Season_move_0 (k : (Int) × ((List (Int)) × ((Int) × ((Int) × ((Int) × ((List (Int)) × ((List (Int)) × ((List (Int)) × (List (List (List (Int)))))))))))) (v : (Int) × (Int)) : Option (Int) := iter (fun v => (S_im_Season_move_0 k v).ev) v
noncomputable def DL_im_Season_move_0 : LD where
 head := { acts := [], S := { slots := [1, 3, 4, 9, 10, 11, 19, 20], sh := (.cons (.dat (.int .i64)) (.cons (.dat (.slice (.int .i64))) (.cons (.box 4 0) (.cons (.dat (.int .u64)) (.cons (.dat (.int .u64)) (.cons (.dat (.int .i64)) (.cons (.dat (.int .i64)) (.cons (.dat (.int .i64)) .nil)))))))), obs := [(4, .cells (.cons (.dat (.slice (.int .i64))) (.cons (.dat (.slice (.int .i64))) (.cons (.dat (.slice (.int .i64))) (.cons (.dat (.slice (.slice (.slice (.int .i64))))) .nil)))))] } }
 exits := [(0, { acts := [], S := { slots := [1, 3, 4, 11], sh := (.cons (.dat (.int .i64)) (.cons (.dat (.slice (.int .i64))) (.cons (.box 4 0) (.cons (.dat (.int .i64)) .nil)))), obs := [(4, .cells (.cons (.dat (.slice (.int .i64))) (.cons (.dat (.slice (.int .i64))) (.cons (.dat (.slice (.int .i64))) (.cons (.dat (.slice (.slice (.slice (.int .i64))))) .nil)))))] } })]
 rets := { acts := [], S := { slots := [], sh := .nil, obs := [] } }
 K := (Int) × ((List (Int)) × ((Int) × ((Int) × ((Int) × ((List (Int)) × ((List (Int)) × ((List (Int)) × (List (List (List (Int)))))))))))
 V := (Int) × (Int)
 R := Int
 join := fun k v => ((k.1, (k.2.1, ((), (k.2.2.1, (k.2.2.2.1, (v.1, (k.2.2.2.2.1, (v.2, ())))))))), ((k.2.2.2.2.2.1, (k.2.2.2.2.2.2.1, (k.2.2.2.2.2.2.2.1, (k.2.2.2.2.2.2.2.2, ())))), ()))
 sk := fun t => (t.1.1, (t.1.2.1, (t.1.2.2.2.1, (t.1.2.2.2.2.1, (t.1.2.2.2.2.2.2.1, (t.2.1.1, (t.2.1.2.1, (t.2.1.2.2.1, t.2.1.2.2.2.1))))))))
 sv := fun t => (t.1.2.2.2.2.2.1, t.1.2.2.2.2.2.2.2.1)
 step := S_im_Season_move_0
 leaf := fun k r => .l (.exit 0 (mkSt ({ slots := [1, 3, 4, 11], sh := (.cons (.dat (.int .i64)) (.cons (.dat (.slice (.int .i64))) (.cons (.box 4 0) (.cons (.dat (.int .i64)) .nil)))), obs := [(4, .cells (.cons (.dat (.slice (.int .i64))) (.cons (.dat (.slice (.int .i64))) (.cons (.dat (.slice (.int .i64))) (.cons (.dat (.slice (.slice (.slice (.int .i64))))) .nil)))))] }) ((k.1, (k.2.1, ((), (r, ())))), ((k.2.2.2.2.2.1, (k.2.2.2.2.2.2.1, (k.2.2.2.2.2.2.2.1, (k.2.2.2.2.2.2.2.2, ())))), ()))))
noncomputable def T_im_Season_move (a1_ : List (Int)) (a2_ : List (Int)) (a3_ : List (Int)) (a4_ : List (List (List (Int)))) (a5_ : Int) (a6_ : List (Int)) (a7_ : List (Int)) : Tr (Int) :=
 .c (Int) (F_im_bagOf a6_) fun r1_ =>
 .c (Int) (F_im_bagOf a7_) fun r2_ =>
 .c (Int) (L_im_Season_move_0 (a5_, (a7_, (r1_, (r2_, (((List.length a1_ : Nat) : Int), (a1_, (a2_, (a3_, a4_)))))))) ((0 : Int), (0 : Int))) fun r34_ =>
 .t (decide ((0 : Int) < ((List.length a7_ : Nat) : Int)))
  (.g (inR a5_ (List.length a4_)) <|
   .c (Int) (F_im_Field_service a1_ (List.getD a4_ (Int.toNat a5_) ([] : List (List (Int)))) a7_) fun r35_ =>
   .l (IntKind.wrap .i64 (r34_ + r35_)))
  (.l r34_)
noncomputable def F_im_Season_move (a1_ : List (Int)) (a2_ : List (Int)) (a3_ : List (Int)) (a4_ : List (List (List (Int)))) (a5_ : Int) (a6_ : List (Int)) (a7_ : List (Int)) : Option (Int) := (T_im_Season_move a1_ a2_ a3_ a4_ a5_ a6_ a7_).ev
noncomputable def A_im_Season_move : Sh := (.cons (.agg (.cons (.dat (.slice (.int .i64))) (.cons (.dat (.slice (.int .i64))) (.cons (.dat (.slice (.int .i64))) (.cons (.dat (.slice (.slice (.slice (.int .i64))))) .nil))))) (.cons (.dat (.int .i64)) (.cons (.dat (.slice (.int .i64))) (.cons (.dat (.slice (.int .i64))) .nil))))
noncomputable def I_im_Season_move : List (Nat × OSh) := []
noncomputable def K_im_Season_move : RetK := { acts := [], res := [.tmp 8], sh := (.cons (.dat (.int .i64)) .nil), obs := [], pins := [] }
noncomputable def D_im_Season_move : FD where
 A := A_im_Season_move
 ins := I_im_Season_move
 lend := []
 R := Int
 F := fun x => F_im_Season_move x.1.1.1 x.1.1.2.1 x.1.1.2.2.1 x.1.1.2.2.2.1 x.1.2.1 x.1.2.2.1 x.1.2.2.2.1
 emb := fun r => ([.dat (.int .i64) r], [])
noncomputable def E_im_Season_move : Env := envOf [(91, D_im_bagOf), (152, D_im_bag_has), (110, D_im_Field_service)]
noncomputable def Z_im_Season_move : Nat → Nat → List Nat := fun _ _ => []
noncomputable def O_im_Season_move : List (Nat × LD) := [(0, DL_im_Season_move_0)]
noncomputable def C_im_Season_move : Code := (f86.body).getD .skip
noncomputable def S_im_Season_moves_0 (k : (List (List (Int))) × ((Int) × ((List (Int)) × ((List (Int)) × ((List (Int)) × (List (List (List (Int))))))))) (v : (List (Int)) × ((Int) × (List (Int)))) : Tr (((List (Int)) × ((Int) × (List (Int)))) ⊕ (List (Int))) :=
 .t (decide (v.2.1 < k.2.1))
  (.g (inR v.2.1 (List.length k.1)) <|
   .c (Int) (F_im_Season_move k.2.2.1 k.2.2.2.1 k.2.2.2.2.1 k.2.2.2.2.2 v.2.1 v.1 (List.getD k.1 (Int.toNat v.2.1) ([] : List (Int)))) fun r20_ =>
   .g (decide ((List.length v.2.2 + List.length ([r20_] : List (Int))) * 8 ≤ 140737488355328)) <|
   .l (.inl ((List.getD k.1 (Int.toNat v.2.1) ([] : List (Int))), ((IntKind.wrap .i64 (v.2.1 + (1 : Int))), (v.2.2 ++ ([r20_] : List (Int)))))))
  (.l (.inr v.2.2))
noncomputable def L_im_Season_moves_0 (k : (List (List (Int))) × ((Int) × ((List (Int)) × ((List (Int)) × ((List (Int)) × (List (List (List (Int))))))))) (v : (List (Int)) × ((Int) × (List (Int)))) : Option (List (Int)) := iter (fun v => (S_im_Season_moves_0 k v).ev) v
noncomputable def DL_im_Season_moves_0 : LD where
 head := { acts := [.fz 10], S := { slots := [2, 5, 6, 11, 12, 13], sh := (.cons (.box 2 0) (.cons (.arr 9) (.cons (.dat (.slice (.int .i64))) (.cons (.dat (.slice (.slice (.int .i64)))) (.cons (.dat (.int .i64)) (.cons (.dat (.int .i64)) .nil)))))), obs := [(2, .cells (.cons (.dat (.slice (.int .i64))) (.cons (.dat (.slice (.int .i64))) (.cons (.dat (.slice (.int .i64))) (.cons (.dat (.slice (.slice (.slice (.int .i64))))) .nil))))), (9, .arr 3 (.int .i64))] } }
 exits := [(0, { acts := [], S := { slots := [5], sh := (.cons (.arr 9) .nil), obs := [(9, .arr 3 (.int .i64))] } })]
 rets := { acts := [], S := { slots := [], sh := .nil, obs := [] } }
 K := (List (List (Int))) × ((Int) × ((List (Int)) × ((List (Int)) × ((List (Int)) × (List (List (List (Int))))))))
 V := (List (Int)) × ((Int) × (List (Int)))
 R := List (Int)
 join := fun k v => (((), ((), (v.1, (k.1, (k.2.1, (v.2.1, ())))))), ((k.2.2.1, (k.2.2.2.1, (k.2.2.2.2.1, (k.2.2.2.2.2, ())))), (v.2.2, ())))
 sk := fun t => (t.1.2.2.2.1, (t.1.2.2.2.2.1, (t.2.1.1, (t.2.1.2.1, (t.2.1.2.2.1, t.2.1.2.2.2.1)))))
 sv := fun t => (t.1.2.2.1, (t.1.2.2.2.2.2.1, t.2.2.1))
 step := S_im_Season_moves_0
 leaf := fun _ r => .l (.exit 0 (mkSt ({ slots := [5], sh := (.cons (.arr 9) .nil), obs := [(9, .arr 3 (.int .i64))] }) (((), ()), (r, ()))))
noncomputable def T_im_Season_moves (a1_ : List (Int)) (a2_ : List (Int)) (a3_ : List (Int)) (a4_ : List (List (List (Int)))) (a5_ : List (List (Int))) : Tr (List (Int)) :=
 .c (List (Int)) (L_im_Season_moves_0 (a5_, (((List.length a5_ : Nat) : Int), (a1_, (a2_, (a3_, a4_))))) (([] : List (Int)), ((0 : Int), ([] : List (Int))))) fun r22_ =>
 .l r22_
noncomputable def F_im_Season_moves (a1_ : List (Int)) (a2_ : List (Int)) (a3_ : List (Int)) (a4_ : List (List (List (Int)))) (a5_ : List (List (Int))) : Option (List (Int)) := (T_im_Season_moves a1_ a2_ a3_ a4_ a5_).ev
noncomputable def A_im_Season_moves : Sh := (.cons (.agg (.cons (.dat (.slice (.int .i64))) (.cons (.dat (.slice (.int .i64))) (.cons (.dat (.slice (.int .i64))) (.cons (.dat (.slice (.slice (.slice (.int .i64))))) .nil))))) (.cons (.dat (.slice (.slice (.int .i64)))) .nil))
noncomputable def I_im_Season_moves : List (Nat × OSh) := []
noncomputable def K_im_Season_moves : RetK := { acts := [.ren 9 0], res := [.tmp 4], sh := (.cons (.arr 0) .nil), obs := [(0, .arr 3 (.int .i64))], pins := [] }
noncomputable def D_im_Season_moves : FD where
 A := A_im_Season_moves
 ins := I_im_Season_moves
 lend := []
 R := List (Int)
 F := fun x => F_im_Season_moves x.1.1.1 x.1.1.2.1 x.1.1.2.2.1 x.1.1.2.2.2.1 x.1.2.1
 emb := fun r => ([.arr 0], [(0, .arr 3 (.int .i64) r)])
noncomputable def E_im_Season_moves : Env := envOf [(86, D_im_Season_move)]
noncomputable def Z_im_Season_moves : Nat → Nat → List Nat := fun _ _ => []
noncomputable def O_im_Season_moves : List (Nat × LD) := [(0, DL_im_Season_moves_0)]
noncomputable def C_im_Season_moves : Code := (f99.body).getD .skip
noncomputable def T_im_StaticPlan_3 (a1_ : List (Int)) (a2_ : List (Int)) (a3_ : List (Int)) (a4_ : List (Int)) (a5_ : List (List (List (Int)))) (a6_ : (HL [(.slice (.int .i64))] → Option (List (List (Int))))) : Tr (Int) :=
 .c (List (List (Int))) (a6_ (a1_, ())) fun r1_ =>
 .c (List (Int)) (F_im_Season_moves a2_ a3_ a4_ a5_ r1_) fun r2_ =>
 .c (Int) (F_im_sum r2_) fun r3_ =>
 .l r3_
noncomputable def F_im_StaticPlan_3 (a1_ : List (Int)) (a2_ : List (Int)) (a3_ : List (Int)) (a4_ : List (Int)) (a5_ : List (List (List (Int)))) (a6_ : (HL [(.slice (.int .i64))] → Option (List (List (Int))))) : Option (Int) := (T_im_StaticPlan_3 a1_ a2_ a3_ a4_ a5_ a6_).ev
noncomputable def A_im_StaticPlan_3 : Sh := (.cons (.dat (.slice (.int .i64))) (.cons (.ptr (.cons (.dat (.slice (.int .i64))) (.cons (.dat (.slice (.int .i64))) (.cons (.dat (.slice (.int .i64))) (.cons (.dat (.slice (.slice (.slice (.int .i64))))) .nil))))) (.cons (.ptr (.cons (.clo [(.slice (.int .i64))] (.slice (.slice (.int .i64)))) .nil)) .nil)))
noncomputable def I_im_StaticPlan_3 : List (Nat × OSh) := []
noncomputable def K_im_StaticPlan_3 : RetK := { acts := [], res := [.tmp 4], sh := (.cons (.dat (.int .i64)) .nil), obs := [], pins := [] }
noncomputable def D_im_StaticPlan_3 : FD where
 A := A_im_StaticPlan_3
 ins := I_im_StaticPlan_3
 lend := []
 R := Int
 F := fun x => F_im_StaticPlan_3 x.1.1 x.1.2.1.1 x.1.2.1.2.1 x.1.2.1.2.2.1 x.1.2.1.2.2.2.1 x.1.2.2.1.1
 emb := fun r => ([.dat (.int .i64) r], [])
noncomputable def E_im_StaticPlan_3 : Env := envOf [(99, D_im_Season_moves), (98, D_im_sum)]
noncomputable def Z_im_StaticPlan_3 : Nat → Nat → List Nat := fun _ _ => []
noncomputable def O_im_StaticPlan_3 : List (Nat × LD) := []
noncomputable def C_im_StaticPlan_3 : Code := (f97.body).getD .skip
noncomputable def T_im_StaticPlan (a1_ : List (Int)) (a2_ : List (Int)) (a3_ : List (Int)) (a4_ : List (List (List (Int)))) : Tr ((Bool) × (List (List (Int)))) :=
 .c (Bool) (F_im_IsSeason a1_ a2_ a3_ a4_) fun r1_ =>
 .t (!r1_)
  (.l (false, ([] : List (List (Int)))))
  (.c (List (List (Int))) (F_im_lists ((List.length a1_ : Nat) : Int) (fun h2_ => Option.bind (F_im_StaticPlan_2 h2_.1 a1_ a2_ a3_ a4_ (fun h3_ => Option.bind (F_im_StaticPlan_1 h3_.1 a1_ a2_ a3_ a4_) fun y4_ => some y4_)) fun y5_ => some y5_)) fun r6_ =>
   .c (List (Int)) (F_im_least r6_ (fun h7_ => Option.bind (F_im_StaticPlan_3 h7_.1 a1_ a2_ a3_ a4_ (fun h8_ => Option.bind (F_im_StaticPlan_1 h8_.1 a1_ a2_ a3_ a4_) fun y9_ => some y9_)) fun y10_ => some y10_)) fun r11_ =>
   .c (List (List (Int))) (F_im_StaticPlan_1 r11_ a1_ a2_ a3_ a4_) fun r12_ =>
   .l (true, r12_))
noncomputable def F_im_StaticPlan (a1_ : List (Int)) (a2_ : List (Int)) (a3_ : List (Int)) (a4_ : List (List (List (Int)))) : Option ((Bool) × (List (List (Int)))) := (T_im_StaticPlan a1_ a2_ a3_ a4_).ev
noncomputable def A_im_StaticPlan : Sh := (.cons (.agg (.cons (.dat (.slice (.int .i64))) (.cons (.dat (.slice (.int .i64))) (.cons (.dat (.slice (.int .i64))) (.cons (.dat (.slice (.slice (.slice (.int .i64))))) .nil))))) .nil)
noncomputable def I_im_StaticPlan : List (Nat × OSh) := []
noncomputable def K_im_StaticPlan : RetK := { acts := [.ownR 2 0 22 3 (.int .i64), .ren 1216 0], res := [.tmp 2, .tmp 3], sh := (.cons (.arr 0) (.cons (.dat .bool) .nil)), obs := [(0, .rows 22 3 (.int .i64))], pins := [] }
noncomputable def D_im_StaticPlan : FD where
 A := A_im_StaticPlan
 ins := I_im_StaticPlan
 lend := []
 R := (Bool) × (List (List (Int)))
 F := fun x => F_im_StaticPlan x.1.1.1 x.1.1.2.1 x.1.1.2.2.1 x.1.1.2.2.2.1
 emb := fun r => ([.arr 0, .dat .bool r.1], [(0, .rows 22 3 (.int .i64) r.2 none)])
noncomputable def E_im_StaticPlan : Env := envOf [(69, D_im_IsSeason), (94, D_im_lists), (83, D_im_least), (83, D_im_least), (97, D_im_StaticPlan_3), (94, D_im_lists), (95, D_im_StaticPlan_2), (93, D_im_StaticPlan_1)]
noncomputable def Z_im_StaticPlan : Nat → Nat → List Nat := fun r i => match look [(5, [(0, [5])])] r with
 | some l => (look l i).getD []
 | none => []
noncomputable def O_im_StaticPlan : List (Nat × LD) := []
noncomputable def C_im_StaticPlan : Code := (f35.body).getD .skip
noncomputable def S_lw_eqIntS_0 (k : (List (Int)) × (List (Int))) (v : Int) : Tr ((Int) ⊕ ((Unit) ⊕ (Unit))) :=
 .t (decide (v < ((List.length k.1 : Nat) : Int)))
  (.g (inR v (List.length k.1)) <|
   .g (inR v (List.length k.2)) <|
   .t ((List.getD k.1 (Int.toNat v) (0 : Int)) != (List.getD k.2 (Int.toNat v) (0 : Int)))
    (.l (.inr (.inr ())))
    (.l (.inl (IntKind.wrap .i64 (v + (1 : Int))))))
  (.l (.inr (.inl ())))
noncomputable def L_lw_eqIntS_0 (k : (List (Int)) × (List (Int))) (v : Int) : Option ((Unit) ⊕ (Unit)) := iter (fun v => (S_lw_eqIntS_0 k v).ev) v
noncomputable def DL_lw_eqIntS_0 : LD where
 head := { acts := [], S := { slots := [0, 1, 5], sh := (.cons (.dat (.slice (.int .i64))) (.cons (.dat (.slice (.int .i64))) (.cons (.dat (.int .i64)) .nil))), obs := [] } }
 exits := [(0, { acts := [], S := { slots := [], sh := .nil, obs := [] } })]
 rets := { acts := [], S := { slots := [4], sh := (.cons (.dat .bool) .nil), obs := [] } }
 K := (List (Int)) × (List (Int))
 V := Int
 R := (Unit) ⊕ (Unit)
 join := fun k v => ((k.1, (k.2, (v, ()))), ())
 sk := fun t => (t.1.1, t.1.2.1)
 sv := fun t => t.1.2.2.1
 step := S_lw_eqIntS_0
 leaf := fun _ r => .s (Unit) (Unit) r (fun _ => .l (.exit 0 (mkSt ({ slots := [], sh := .nil, obs := [] }) ((), ())))) (fun _ => .l (.ret (mkSt ({ slots := [4], sh := (.cons (.dat .bool) .nil), obs := [] }) ((false, ()), ()))))
noncomputable def T_lw_eqIntS (a1_ : List (Int)) (a2_ : List (Int)) : Tr (Bool) :=
 .t (((List.length a1_ : Nat) : Int) != ((List.length a2_ : Nat) : Int))
  (.l false)
  (.c ((Unit) ⊕ (Unit)) (L_lw_eqIntS_0 (a1_, a2_) (0 : Int)) fun r5_ =>
   .s (Unit) (Unit) r5_
    (fun _ => .l true)
    (fun _ => .l false))
noncomputable def F_lw_eqIntS (a1_ : List (Int)) (a2_ : List (Int)) : Option (Bool) := (T_lw_eqIntS a1_ a2_).ev
noncomputable def A_lw_eqIntS : Sh := (.cons (.dat (.slice (.int .i64))) (.cons (.dat (.slice (.int .i64))) .nil))
noncomputable def I_lw_eqIntS : List (Nat × OSh) := []
noncomputable def K_lw_eqIntS : RetK := { acts := [], res := [.tmp 4], sh := (.cons (.dat .bool) .nil), obs := [], pins := [] }
noncomputable def D_lw_eqIntS : FD where
 A := A_lw_eqIntS
 ins := I_lw_eqIntS
 lend := []
 R := Bool
 F := fun x => F_lw_eqIntS x.1.1 x.1.2.1
 emb := fun r => ([.dat .bool r], [])
noncomputable def E_lw_eqIntS : Env := envOf []
noncomputable def Z_lw_eqIntS : Nat → Nat → List Nat := fun _ _ => []
noncomputable def O_lw_eqIntS : List (Nat × LD) := [(0, DL_lw_eqIntS_0)]
noncomputable def C_lw_eqIntS : Code := (f43.body).getD .skip
noncomputable def S_lw_eqIntSS_0 (k : (List (List (Int))) × (List (List (Int)))) (v : Int) : Tr ((Int) ⊕ ((Unit) ⊕ (Unit))) :=
 .t (decide (v < ((List.length k.1 : Nat) : Int)))
  (.g (inR v (List.length k.1)) <|
   .g (inR v (List.length k.2)) <|
   .c (Bool) (F_lw_eqIntS (List.getD k.1 (Int.toNat v) ([] : List (Int))) (List.getD k.2 (Int.toNat v) ([] : List (Int)))) fun r4_ =>
   .t (!r4_)
    (.l (.inr (.inr ())))
    (.l (.inl (IntKind.wrap .i64 (v + (1 : Int))))))
  (.l (.inr (.inl ())))
noncomputable def L_lw_eqIntSS_0 (k : (List (List (Int))) × (List (List (Int)))) (v : Int) : Option ((Unit) ⊕ (Unit)) := iter (fun v => (S_lw_eqIntSS_0 k v).ev) v
noncomputable def DL_lw_eqIntSS_0 : LD where
 head := { acts := [], S := { slots := [0, 1, 5], sh := (.cons (.dat (.slice (.slice (.int .i64)))) (.cons (.dat (.slice (.slice (.int .i64)))) (.cons (.dat (.int .i64)) .nil))), obs := [] } }
 exits := [(0, { acts := [], S := { slots := [], sh := .nil, obs := [] } })]
 rets := { acts := [], S := { slots := [4], sh := (.cons (.dat .bool) .nil), obs := [] } }
 K := (List (List (Int))) × (List (List (Int)))
 V := Int
 R := (Unit) ⊕ (Unit)
 join := fun k v => ((k.1, (k.2, (v, ()))), ())
 sk := fun t => (t.1.1, t.1.2.1)
 sv := fun t => t.1.2.2.1
 step := S_lw_eqIntSS_0
 leaf := fun _ r => .s (Unit) (Unit) r (fun _ => .l (.exit 0 (mkSt ({ slots := [], sh := .nil, obs := [] }) ((), ())))) (fun _ => .l (.ret (mkSt ({ slots := [4], sh := (.cons (.dat .bool) .nil), obs := [] }) ((false, ()), ()))))
noncomputable def T_lw_eqIntSS (a1_ : List (List (Int))) (a2_ : List (List (Int))) : Tr (Bool) :=
 .t (((List.length a1_ : Nat) : Int) != ((List.length a2_ : Nat) : Int))
  (.l false)
  (.c ((Unit) ⊕ (Unit)) (L_lw_eqIntSS_0 (a1_, a2_) (0 : Int)) fun r6_ =>
   .s (Unit) (Unit) r6_
    (fun _ => .l true)
    (fun _ => .l false))
noncomputable def F_lw_eqIntSS (a1_ : List (List (Int))) (a2_ : List (List (Int))) : Option (Bool) := (T_lw_eqIntSS a1_ a2_).ev
noncomputable def A_lw_eqIntSS : Sh := (.cons (.dat (.slice (.slice (.int .i64)))) (.cons (.dat (.slice (.slice (.int .i64)))) .nil))
noncomputable def I_lw_eqIntSS : List (Nat × OSh) := []
noncomputable def K_lw_eqIntSS : RetK := { acts := [], res := [.tmp 4], sh := (.cons (.dat .bool) .nil), obs := [], pins := [] }
noncomputable def D_lw_eqIntSS : FD where
 A := A_lw_eqIntSS
 ins := I_lw_eqIntSS
 lend := []
 R := Bool
 F := fun x => F_lw_eqIntSS x.1.1 x.1.2.1
 emb := fun r => ([.dat .bool r], [])
noncomputable def E_lw_eqIntSS : Env := envOf [(43, D_lw_eqIntS)]
noncomputable def Z_lw_eqIntSS : Nat → Nat → List Nat := fun _ _ => []
noncomputable def O_lw_eqIntSS : List (Nat × LD) := [(0, DL_lw_eqIntSS_0)]
noncomputable def C_lw_eqIntSS : Code := (f22.body).getD .skip
noncomputable def S_lw_eqIntSSS_0 (k : (List (List (List (Int)))) × (List (List (List (Int))))) (v : Int) : Tr ((Int) ⊕ ((Unit) ⊕ (Unit))) :=
 .t (decide (v < ((List.length k.1 : Nat) : Int)))
  (.g (inR v (List.length k.1)) <|
   .g (inR v (List.length k.2)) <|
   .c (Bool) (F_lw_eqIntSS (List.getD k.1 (Int.toNat v) ([] : List (List (Int)))) (List.getD k.2 (Int.toNat v) ([] : List (List (Int))))) fun r4_ =>
   .t (!r4_)
    (.l (.inr (.inr ())))
    (.l (.inl (IntKind.wrap .i64 (v + (1 : Int))))))
  (.l (.inr (.inl ())))
noncomputable def L_lw_eqIntSSS_0 (k : (List (List (List (Int)))) × (List (List (List (Int))))) (v : Int) : Option ((Unit) ⊕ (Unit)) := iter (fun v => (S_lw_eqIntSSS_0 k v).ev) v
noncomputable def DL_lw_eqIntSSS_0 : LD where
 head := { acts := [], S := { slots := [0, 1, 5], sh := (.cons (.dat (.slice (.slice (.slice (.int .i64))))) (.cons (.dat (.slice (.slice (.slice (.int .i64))))) (.cons (.dat (.int .i64)) .nil))), obs := [] } }
 exits := [(0, { acts := [], S := { slots := [], sh := .nil, obs := [] } })]
 rets := { acts := [], S := { slots := [4], sh := (.cons (.dat .bool) .nil), obs := [] } }
 K := (List (List (List (Int)))) × (List (List (List (Int))))
 V := Int
 R := (Unit) ⊕ (Unit)
 join := fun k v => ((k.1, (k.2, (v, ()))), ())
 sk := fun t => (t.1.1, t.1.2.1)
 sv := fun t => t.1.2.2.1
 step := S_lw_eqIntSSS_0
 leaf := fun _ r => .s (Unit) (Unit) r (fun _ => .l (.exit 0 (mkSt ({ slots := [], sh := .nil, obs := [] }) ((), ())))) (fun _ => .l (.ret (mkSt ({ slots := [4], sh := (.cons (.dat .bool) .nil), obs := [] }) ((false, ()), ()))))
noncomputable def T_lw_eqIntSSS (a1_ : List (List (List (Int)))) (a2_ : List (List (List (Int)))) : Tr (Bool) :=
 .t (((List.length a1_ : Nat) : Int) != ((List.length a2_ : Nat) : Int))
  (.l false)
  (.c ((Unit) ⊕ (Unit)) (L_lw_eqIntSSS_0 (a1_, a2_) (0 : Int)) fun r6_ =>
   .s (Unit) (Unit) r6_
    (fun _ => .l true)
    (fun _ => .l false))
noncomputable def F_lw_eqIntSSS (a1_ : List (List (List (Int)))) (a2_ : List (List (List (Int)))) : Option (Bool) := (T_lw_eqIntSSS a1_ a2_).ev
noncomputable def A_lw_eqIntSSS : Sh := (.cons (.dat (.slice (.slice (.slice (.int .i64))))) (.cons (.dat (.slice (.slice (.slice (.int .i64))))) .nil))
noncomputable def I_lw_eqIntSSS : List (Nat × OSh) := []
noncomputable def K_lw_eqIntSSS : RetK := { acts := [], res := [.tmp 4], sh := (.cons (.dat .bool) .nil), obs := [], pins := [] }
noncomputable def D_lw_eqIntSSS : FD where
 A := A_lw_eqIntSSS
 ins := I_lw_eqIntSSS
 lend := []
 R := Bool
 F := fun x => F_lw_eqIntSSS x.1.1 x.1.2.1
 emb := fun r => ([.dat .bool r], [])
noncomputable def E_lw_eqIntSSS : Env := envOf [(22, D_lw_eqIntSS)]
noncomputable def Z_lw_eqIntSSS : Nat → Nat → List Nat := fun _ _ => []
noncomputable def O_lw_eqIntSSS : List (Nat × LD) := [(0, DL_lw_eqIntSSS_0)]
noncomputable def C_lw_eqIntSSS : Code := (f71.body).getD .skip
noncomputable def T_lw_eqSeason (a1_ : List (Int)) (a2_ : List (Int)) (a3_ : List (Int)) (a4_ : List (List (List (Int)))) (a5_ : List (Int)) (a6_ : List (Int)) (a7_ : List (Int)) (a8_ : List (List (List (Int)))) : Tr (Bool) :=
 .c (Bool) (F_lw_eqIntS a1_ a5_) fun r1_ =>
 .t (!r1_)
  (.l false)
  (.c (Bool) (F_lw_eqIntS a2_ a6_) fun r2_ =>
   .t (!r2_)
    (.l false)
    (.c (Bool) (F_lw_eqIntS a3_ a7_) fun r3_ =>
     .t (!r3_)
      (.l false)
      (.c (Bool) (F_lw_eqIntSSS a4_ a8_) fun r4_ =>
       .t (!r4_)
        (.l false)
        (.l true))))
noncomputable def F_lw_eqSeason (a1_ : List (Int)) (a2_ : List (Int)) (a3_ : List (Int)) (a4_ : List (List (List (Int)))) (a5_ : List (Int)) (a6_ : List (Int)) (a7_ : List (Int)) (a8_ : List (List (List (Int)))) : Option (Bool) := (T_lw_eqSeason a1_ a2_ a3_ a4_ a5_ a6_ a7_ a8_).ev
noncomputable def A_lw_eqSeason : Sh := (.cons (.agg (.cons (.dat (.slice (.int .i64))) (.cons (.dat (.slice (.int .i64))) (.cons (.dat (.slice (.int .i64))) (.cons (.dat (.slice (.slice (.slice (.int .i64))))) .nil))))) (.cons (.agg (.cons (.dat (.slice (.int .i64))) (.cons (.dat (.slice (.int .i64))) (.cons (.dat (.slice (.int .i64))) (.cons (.dat (.slice (.slice (.slice (.int .i64))))) .nil))))) .nil))
noncomputable def I_lw_eqSeason : List (Nat × OSh) := []
noncomputable def K_lw_eqSeason : RetK := { acts := [], res := [.tmp 4], sh := (.cons (.dat .bool) .nil), obs := [], pins := [] }
noncomputable def D_lw_eqSeason : FD where
 A := A_lw_eqSeason
 ins := I_lw_eqSeason
 lend := []
 R := Bool
 F := fun x => F_lw_eqSeason x.1.1.1 x.1.1.2.1 x.1.1.2.2.1 x.1.1.2.2.2.1 x.1.2.1.1 x.1.2.1.2.1 x.1.2.1.2.2.1 x.1.2.1.2.2.2.1
 emb := fun r => ([.dat .bool r], [])
noncomputable def E_lw_eqSeason : Env := envOf [(43, D_lw_eqIntS), (71, D_lw_eqIntSSS)]
noncomputable def Z_lw_eqSeason : Nat → Nat → List Nat := fun _ _ => []
noncomputable def O_lw_eqSeason : List (Nat × LD) := []
noncomputable def C_lw_eqSeason : Code := (f17.body).getD .skip
noncomputable def S_lw_markIntS_0 (_k : Unit) (v : (Int) × ((Int) × (List (Int)))) : Tr (((Int) × ((Int) × (List (Int)))) ⊕ ((Int) × (List (Int)))) :=
 .t (decide (v.2.1 < ((List.length v.2.2 : Nat) : Int)))
  (.g (inR v.2.1 (List.length v.2.2)) <|
   .g (decide ((Int.toNat v.2.1) < List.length v.2.2)) <|
   .l (.inl ((IntKind.wrap .i64 (v.1 + (1 : Int))), ((IntKind.wrap .i64 (v.2.1 + (1 : Int))), (List.set v.2.2 (Int.toNat v.2.1) v.1)))))
  (.l (.inr (v.1, v.2.2)))
noncomputable def L_lw_markIntS_0 (k : Unit) (v : (Int) × ((Int) × (List (Int)))) : Option ((Int) × (List (Int))) := iter (fun v => (S_lw_markIntS_0 k v).ev) v
noncomputable def DL_lw_markIntS_0 : LD where
 head := { acts := [], S := { slots := [0, 1, 5], sh := (.cons (.arr 64) (.cons (.dat (.int .i64)) (.cons (.dat (.int .i64)) .nil))), obs := [(64, .arr 3 (.int .i64))] } }
 exits := [(0, { acts := [], S := { slots := [0, 1], sh := (.cons (.arr 64) (.cons (.dat (.int .i64)) .nil)), obs := [(64, .arr 3 (.int .i64))] } })]
 rets := { acts := [], S := { slots := [], sh := .nil, obs := [] } }
 K := Unit
 V := (Int) × ((Int) × (List (Int)))
 R := (Int) × (List (Int))
 join := fun _ v => (((), (v.1, (v.2.1, ()))), (v.2.2, ()))
 sk := fun _ => ()
 sv := fun t => (t.1.2.1, (t.1.2.2.1, t.2.1))
 step := S_lw_markIntS_0
 leaf := fun _ r => .l (.exit 0 (mkSt ({ slots := [0, 1], sh := (.cons (.arr 64) (.cons (.dat (.int .i64)) .nil)), obs := [(64, .arr 3 (.int .i64))] }) (((), (r.1, ())), (r.2, ()))))
noncomputable def T_lw_markIntS (a2_ : Int) (a1_ : List (Int)) : Tr ((Int) × (List (Int))) :=
 .c ((Int) × (List (Int))) (L_lw_markIntS_0 () (a2_, ((0 : Int), a1_))) fun r6_ =>
 .l (r6_.1, r6_.2)
noncomputable def F_lw_markIntS (a2_ : Int) (a1_ : List (Int)) : Option ((Int) × (List (Int))) := (T_lw_markIntS a2_ a1_).ev
noncomputable def A_lw_markIntS : Sh := (.cons (.arr 64) (.cons (.dat (.int .i64)) .nil))
noncomputable def I_lw_markIntS : List (Nat × OSh) := [(64, .arr 3 (.int .i64))]
noncomputable def K_lw_markIntS : RetK := { acts := [], res := [.tmp 4], sh := (.cons (.dat (.int .i64)) .nil), obs := [(64, .arr 3 (.int .i64))], pins := [(0, 0, 64)] }
noncomputable def D_lw_markIntS : FD where
 A := A_lw_markIntS
 ins := I_lw_markIntS
 lend := [.arg 0]
 R := (Int) × (List (Int))
 F := fun x => F_lw_markIntS x.1.2.1 x.2.1
 emb := fun r => ([.dat (.int .i64) r.1], [(64, .arr 3 (.int .i64) r.2)])
noncomputable def E_lw_markIntS : Env := envOf []
noncomputable def Z_lw_markIntS : Nat → Nat → List Nat := fun _ _ => []
noncomputable def O_lw_markIntS : List (Nat × LD) := [(0, DL_lw_markIntS_0)]
noncomputable def C_lw_markIntS : Code := (f47.body).getD .skip
noncomputable def F_lw_markIntSSS (a2_ : Int) (a1_ : List (List (List (Int)))) : Option (Int) := mark3F a2_ a1_
noncomputable def D_lw_markIntSSS : FD := fdMark3
noncomputable def T_lw_markSeason (a5_ : Int) (a1_ : List (Int)) (a2_ : List (Int)) (a3_ : List (Int)) (a4_ : List (List (List (Int)))) : Tr ((Int) × ((List (Int)) × ((List (Int)) × (List (Int))))) :=
 .c ((Int) × (List (Int))) (F_lw_markIntS a5_ a1_) fun r1_ =>
 .c ((Int) × (List (Int))) (F_lw_markIntS r1_.1 a2_) fun r2_ =>
 .c ((Int) × (List (Int))) (F_lw_markIntS r2_.1 a3_) fun r3_ =>
 .c (Int) (F_lw_markIntSSS r3_.1 a4_) fun r4_ =>
 .l (r4_, (r1_.2, (r2_.2, r3_.2)))
noncomputable def F_lw_markSeason (a5_ : Int) (a1_ : List (Int)) (a2_ : List (Int)) (a3_ : List (Int)) (a4_ : List (List (List (Int)))) : Option ((Int) × ((List (Int)) × ((List (Int)) × (List (Int))))) := (T_lw_markSeason a5_ a1_ a2_ a3_ a4_).ev
noncomputable def A_lw_markSeason : Sh := (.cons (.agg (.cons (.arr 64) (.cons (.arr 65) (.cons (.arr 66) (.cons (.arr 67) .nil))))) (.cons (.dat (.int .i64)) .nil))
noncomputable def I_lw_markSeason : List (Nat × OSh) := [(64, .arr 3 (.int .i64)), (65, .arr 3 (.int .i64)), (66, .arr 3 (.int .i64)), (67, .deep 33 (.slice (.slice (.int .i64))))]
noncomputable def K_lw_markSeason : RetK := { acts := [], res := [.tmp 4], sh := (.cons (.dat (.int .i64)) .nil), obs := [(64, .arr 3 (.int .i64)), (65, .arr 3 (.int .i64)), (66, .arr 3 (.int .i64)), (67, .spent)], pins := [(0, 1, 64), (0, 2, 65), (0, 3, 66), (0, 4, 67)] }
noncomputable def D_lw_markSeason : FD where
 A := A_lw_markSeason
 ins := I_lw_markSeason
 lend := [.comp 0 0, .comp 0 1, .comp 0 2, .comp 0 3]
 R := (Int) × ((List (Int)) × ((List (Int)) × (List (Int))))
 F := fun x => F_lw_markSeason x.1.2.1 x.2.1 x.2.2.1 x.2.2.2.1 x.2.2.2.2.1
 emb := fun r => ([.dat (.int .i64) r.1], [(64, .arr 3 (.int .i64) r.2.1), (65, .arr 3 (.int .i64) r.2.2.1), (66, .arr 3 (.int .i64) r.2.2.2), (67, .spent)])
noncomputable def E_lw_markSeason : Env := envOf [(47, D_lw_markIntS), (88, D_lw_markIntSSS)]
noncomputable def Z_lw_markSeason : Nat → Nat → List Nat := fun _ _ => []
noncomputable def O_lw_markSeason : List (Nat × LD) := []
noncomputable def C_lw_markSeason : Code := (f27.body).getD .skip
noncomputable def S_lw_markIntSS_0 (_k : Unit) (v : (Int) × ((Int) × (List (List (Int))))) : Tr (((Int) × ((Int) × (List (List (Int))))) ⊕ ((Int) × (List (List (Int))))) :=
 .t (decide (v.2.1 < ((List.length v.2.2 : Nat) : Int)))
  (.g (inR v.2.1 (List.length v.2.2)) <|
   .g (decide ((Int.toNat v.2.1) < List.length v.2.2)) <|
   .c ((Int) × (List (Int))) (F_lw_markIntS v.1 (List.getD v.2.2 (Int.toNat v.2.1) ([] : List (Int)))) fun r4_ =>
   .l (.inl (r4_.1, ((IntKind.wrap .i64 (v.2.1 + (1 : Int))), (List.set v.2.2 (Int.toNat v.2.1) r4_.2)))))
  (.l (.inr (v.1, v.2.2)))
noncomputable def L_lw_markIntSS_0 (k : Unit) (v : (Int) × ((Int) × (List (List (Int))))) : Option ((Int) × (List (List (Int)))) := iter (fun v => (S_lw_markIntSS_0 k v).ev) v
noncomputable def DL_lw_markIntSS_0 : LD where
 head := { acts := [.fz 500015], S := { slots := [0, 1, 5], sh := (.cons (.arr 64) (.cons (.dat (.int .i64)) (.cons (.dat (.int .i64)) .nil))), obs := [(64, .rows 22 3 (.int .i64))] } }
 exits := [(0, { acts := [], S := { slots := [0, 1], sh := (.cons (.arr 64) (.cons (.dat (.int .i64)) .nil)), obs := [(64, .rows 22 3 (.int .i64))] } })]
 rets := { acts := [], S := { slots := [], sh := .nil, obs := [] } }
 K := Unit
 V := (Int) × ((Int) × (List (List (Int))))
 R := (Int) × (List (List (Int)))
 join := fun _ v => (((), (v.1, (v.2.1, ()))), (v.2.2, ()))
 sk := fun _ => ()
 sv := fun t => (t.1.2.1, (t.1.2.2.1, t.2.1))
 step := S_lw_markIntSS_0
 leaf := fun _ r => .l (.exit 0 (mkSt ({ slots := [0, 1], sh := (.cons (.arr 64) (.cons (.dat (.int .i64)) .nil)), obs := [(64, .rows 22 3 (.int .i64))] }) (((), (r.1, ())), (r.2, ()))))
noncomputable def T_lw_markIntSS (a2_ : Int) (a1_ : List (List (Int))) : Tr ((Int) × (List (List (Int)))) :=
 .c ((Int) × (List (List (Int)))) (L_lw_markIntSS_0 () (a2_, ((0 : Int), a1_))) fun r7_ =>
 .l (r7_.1, r7_.2)
noncomputable def F_lw_markIntSS (a2_ : Int) (a1_ : List (List (Int))) : Option ((Int) × (List (List (Int)))) := (T_lw_markIntSS a2_ a1_).ev
noncomputable def A_lw_markIntSS : Sh := (.cons (.arr 64) (.cons (.dat (.int .i64)) .nil))
noncomputable def I_lw_markIntSS : List (Nat × OSh) := [(64, .rows 22 3 (.int .i64))]
noncomputable def K_lw_markIntSS : RetK := { acts := [], res := [.tmp 4], sh := (.cons (.dat (.int .i64)) .nil), obs := [(64, .rows 22 3 (.int .i64))], pins := [(0, 0, 64)] }
noncomputable def D_lw_markIntSS : FD where
 A := A_lw_markIntSS
 ins := I_lw_markIntSS
 lend := [.arg 0]
 R := (Int) × (List (List (Int)))
 F := fun x => F_lw_markIntSS x.1.2.1 x.2.1
 emb := fun r => ([.dat (.int .i64) r.1], [(64, .rows 22 3 (.int .i64) r.2 none)])
noncomputable def E_lw_markIntSS : Env := envOf [(47, D_lw_markIntS)]
noncomputable def Z_lw_markIntSS : Nat → Nat → List Nat := fun r i => match look [(4, [(5, [2000015])])] r with
 | some l => (look l i).getD []
 | none => []
noncomputable def O_lw_markIntSS : List (Nat × LD) := [(0, DL_lw_markIntSS_0)]
noncomputable def C_lw_markIntSS : Code := (f28.body).getD .skip
noncomputable def S_lw_heldIntS_0 (k : List (Int)) (v : (Int) × (Int)) : Tr (((Int) × (Int)) ⊕ ((Int) ⊕ (Unit))) :=
 .t (decide (v.2 < ((List.length k : Nat) : Int)))
  (.g (inR v.2 (List.length k)) <|
   .t ((List.getD k (Int.toNat v.2) (0 : Int)) != v.1)
    (.l (.inr (.inr ())))
    (.l (.inl ((IntKind.wrap .i64 (v.1 + (1 : Int))), (IntKind.wrap .i64 (v.2 + (1 : Int)))))))
  (.l (.inr (.inl v.1)))
noncomputable def L_lw_heldIntS_0 (k : List (Int)) (v : (Int) × (Int)) : Option ((Int) ⊕ (Unit)) := iter (fun v => (S_lw_heldIntS_0 k v).ev) v
noncomputable def DL_lw_heldIntS_0 : LD where
 head := { acts := [], S := { slots := [0, 1, 5], sh := (.cons (.dat (.slice (.int .i64))) (.cons (.dat (.int .i64)) (.cons (.dat (.int .i64)) .nil))), obs := [] } }
 exits := [(0, { acts := [], S := { slots := [1], sh := (.cons (.dat (.int .i64)) .nil), obs := [] } })]
 rets := { acts := [], S := { slots := [4], sh := (.cons (.dat (.int .i64)) .nil), obs := [] } }
 K := List (Int)
 V := (Int) × (Int)
 R := (Int) ⊕ (Unit)
 join := fun k v => ((k, (v.1, (v.2, ()))), ())
 sk := fun t => t.1.1
 sv := fun t => (t.1.2.1, t.1.2.2.1)
 step := S_lw_heldIntS_0
 leaf := fun _ r => .s (Int) (Unit) r (fun a => .l (.exit 0 (mkSt ({ slots := [1], sh := (.cons (.dat (.int .i64)) .nil), obs := [] }) ((a, ()), ())))) (fun _ => .l (.ret (mkSt ({ slots := [4], sh := (.cons (.dat (.int .i64)) .nil), obs := [] }) (((-1 : Int), ()), ()))))
noncomputable def T_lw_heldIntS (a1_ : List (Int)) (a2_ : Int) : Tr (Int) :=
 .c ((Int) ⊕ (Unit)) (L_lw_heldIntS_0 a1_ (a2_, (0 : Int))) fun r6_ =>
 .s (Int) (Unit) r6_
  (fun r7_ => .l r7_)
  (fun _ => .l (-1 : Int))
noncomputable def F_lw_heldIntS (a1_ : List (Int)) (a2_ : Int) : Option (Int) := (T_lw_heldIntS a1_ a2_).ev
noncomputable def A_lw_heldIntS : Sh := (.cons (.dat (.slice (.int .i64))) (.cons (.dat (.int .i64)) .nil))
noncomputable def I_lw_heldIntS : List (Nat × OSh) := []
noncomputable def K_lw_heldIntS : RetK := { acts := [], res := [.tmp 4], sh := (.cons (.dat (.int .i64)) .nil), obs := [], pins := [] }
noncomputable def D_lw_heldIntS : FD where
 A := A_lw_heldIntS
 ins := I_lw_heldIntS
 lend := []
 R := Int
 F := fun x => F_lw_heldIntS x.1.1 x.1.2.1
 emb := fun r => ([.dat (.int .i64) r], [])
noncomputable def E_lw_heldIntS : Env := envOf []
noncomputable def Z_lw_heldIntS : Nat → Nat → List Nat := fun _ _ => []
noncomputable def O_lw_heldIntS : List (Nat × LD) := [(0, DL_lw_heldIntS_0)]
noncomputable def C_lw_heldIntS : Code := (f48.body).getD .skip
noncomputable def S_lw_heldIntSS_0 (k : List (List (Int))) (v : (Int) × (Int)) : Tr (((Int) × (Int)) ⊕ ((Int) ⊕ (Unit))) :=
 .t (decide (v.2 < ((List.length k : Nat) : Int)))
  (.g (inR v.2 (List.length k)) <|
   .c (Int) (F_lw_heldIntS (List.getD k (Int.toNat v.2) ([] : List (Int))) v.1) fun r4_ =>
   .t (decide (r4_ < (0 : Int)))
    (.l (.inr (.inr ())))
    (.l (.inl (r4_, (IntKind.wrap .i64 (v.2 + (1 : Int)))))))
  (.l (.inr (.inl v.1)))
noncomputable def L_lw_heldIntSS_0 (k : List (List (Int))) (v : (Int) × (Int)) : Option ((Int) ⊕ (Unit)) := iter (fun v => (S_lw_heldIntSS_0 k v).ev) v
noncomputable def DL_lw_heldIntSS_0 : LD where
 head := { acts := [], S := { slots := [0, 1, 5], sh := (.cons (.dat (.slice (.slice (.int .i64)))) (.cons (.dat (.int .i64)) (.cons (.dat (.int .i64)) .nil))), obs := [] } }
 exits := [(0, { acts := [], S := { slots := [1], sh := (.cons (.dat (.int .i64)) .nil), obs := [] } })]
 rets := { acts := [], S := { slots := [4], sh := (.cons (.dat (.int .i64)) .nil), obs := [] } }
 K := List (List (Int))
 V := (Int) × (Int)
 R := (Int) ⊕ (Unit)
 join := fun k v => ((k, (v.1, (v.2, ()))), ())
 sk := fun t => t.1.1
 sv := fun t => (t.1.2.1, t.1.2.2.1)
 step := S_lw_heldIntSS_0
 leaf := fun _ r => .s (Int) (Unit) r (fun a => .l (.exit 0 (mkSt ({ slots := [1], sh := (.cons (.dat (.int .i64)) .nil), obs := [] }) ((a, ()), ())))) (fun _ => .l (.ret (mkSt ({ slots := [4], sh := (.cons (.dat (.int .i64)) .nil), obs := [] }) (((-1 : Int), ()), ()))))
noncomputable def T_lw_heldIntSS (a1_ : List (List (Int))) (a2_ : Int) : Tr (Int) :=
 .c ((Int) ⊕ (Unit)) (L_lw_heldIntSS_0 a1_ (a2_, (0 : Int))) fun r7_ =>
 .s (Int) (Unit) r7_
  (fun r8_ => .l r8_)
  (fun _ => .l (-1 : Int))
noncomputable def F_lw_heldIntSS (a1_ : List (List (Int))) (a2_ : Int) : Option (Int) := (T_lw_heldIntSS a1_ a2_).ev
noncomputable def A_lw_heldIntSS : Sh := (.cons (.dat (.slice (.slice (.int .i64)))) (.cons (.dat (.int .i64)) .nil))
noncomputable def I_lw_heldIntSS : List (Nat × OSh) := []
noncomputable def K_lw_heldIntSS : RetK := { acts := [], res := [.tmp 4], sh := (.cons (.dat (.int .i64)) .nil), obs := [], pins := [] }
noncomputable def D_lw_heldIntSS : FD where
 A := A_lw_heldIntSS
 ins := I_lw_heldIntSS
 lend := []
 R := Int
 F := fun x => F_lw_heldIntSS x.1.1 x.1.2.1
 emb := fun r => ([.dat (.int .i64) r], [])
noncomputable def E_lw_heldIntSS : Env := envOf [(48, D_lw_heldIntS)]
noncomputable def Z_lw_heldIntSS : Nat → Nat → List Nat := fun _ _ => []
noncomputable def O_lw_heldIntSS : List (Nat × LD) := [(0, DL_lw_heldIntSS_0)]
noncomputable def C_lw_heldIntSS : Code := (f29.body).getD .skip
noncomputable def T_lw_FnExactStaticPlan (a1_ : List (Int)) (a2_ : List (Int)) (a3_ : List (Int)) (a4_ : List (List (List (Int)))) : Tr (Bool) :=
 .c (Int) (F_lw_szSeason a1_ a2_ a3_ a4_ (1048576 : Int)) fun r1_ =>
 .t (decide (r1_ < (0 : Int)))
  (.l true)
  (.c ((List (Int)) × ((List (Int)) × ((List (Int)) × (List (List (List (Int))))))) (F_lw_toSeason a1_ a2_ a3_ a4_) fun r2_ =>
   .c ((List (List (Int))) × (Bool)) (F_sp_StaticPlan r2_.1 r2_.2.1 r2_.2.2.1 r2_.2.2.2) fun r3_ =>
   .c ((List (Int)) × ((List (Int)) × ((List (Int)) × (List (List (List (Int))))))) (F_lw_toSeason a1_ a2_ a3_ a4_) fun r4_ =>
   .c ((Bool) × (List (List (Int)))) (F_im_StaticPlan r4_.1 r4_.2.1 r4_.2.2.1 r4_.2.2.2) fun r5_ =>
   .c (Bool) (F_lw_eqIntSS r5_.2 r3_.1) fun r6_ =>
   .t (!r6_)
    (.l false)
    (.t (!(r5_.1 == r3_.2))
      (.l false)
      (.c ((List (Int)) × ((List (Int)) × ((List (Int)) × (List (List (List (Int))))))) (F_lw_toSeason a1_ a2_ a3_ a4_) fun r7_ =>
       .c (Bool) (F_lw_eqSeason r4_.1 r4_.2.1 r4_.2.2.1 r4_.2.2.2 r7_.1 r7_.2.1 r7_.2.2.1 r7_.2.2.2) fun r8_ =>
       .t (!r8_)
        (.l false)
        (.c ((Int) × ((List (Int)) × ((List (Int)) × (List (Int))))) (F_lw_markSeason (1 : Int) r4_.1 r4_.2.1 r4_.2.2.1 r4_.2.2.2) fun r9_ =>
         .t (decide (r9_.1 < (0 : Int)))
          (.l false)
          (.c (Bool) (F_lw_eqIntSS r5_.2 r3_.1) fun r10_ =>
           .t (!r10_)
            (.l false)
            (.t (!(r5_.1 == r3_.2))
              (.l false)
              (.c ((Int) × (List (List (Int)))) (F_lw_markIntSS (1 : Int) r5_.2) fun r11_ =>
               .c (Int) (F_lw_heldIntSS r11_.2 (1 : Int)) fun r12_ =>
               .t (decide (r12_ < (0 : Int)))
                (.l false)
                (.t (r12_ != r11_.1)
                  (.l false)
                  (.c ((List (Int)) × ((List (Int)) × ((List (Int)) × (List (List (List (Int))))))) (F_lw_toSeason a1_ a2_ a3_ a4_) fun r13_ =>
                   .c ((Bool) × (List (List (Int)))) (F_im_StaticPlan r13_.1 r13_.2.1 r13_.2.2.1 r13_.2.2.2) fun r14_ =>
                   .c (Bool) (F_lw_eqIntSS r14_.2 r3_.1) fun r15_ =>
                   .t (!r15_)
                    (.l false)
                    (.t (!(r14_.1 == r3_.2))
                      (.l false)
                      (.c (Int) (F_lw_heldIntSS r11_.2 (1 : Int)) fun r16_ =>
                       .t (decide (r16_ < (0 : Int)))
                        (.l false)
                        (.t (r16_ != r11_.1)
                          (.l false)
                          (.l true)))))))))))))
noncomputable def F_lw_FnExactStaticPlan (a1_ : List (Int)) (a2_ : List (Int)) (a3_ : List (Int)) (a4_ : List (List (List (Int)))) : Option (Bool) := (T_lw_FnExactStaticPlan a1_ a2_ a3_ a4_).ev
noncomputable def A_lw_FnExactStaticPlan : Sh := (.cons (.agg (.cons (.dat (.slice (.int .i64))) (.cons (.dat (.slice (.int .i64))) (.cons (.dat (.slice (.int .i64))) (.cons (.dat (.slice (.slice (.slice (.int .i64))))) .nil))))) .nil)
noncomputable def I_lw_FnExactStaticPlan : List (Nat × OSh) := []
noncomputable def K_lw_FnExactStaticPlan : RetK := { acts := [], res := [.tmp 2], sh := (.cons (.dat .bool) .nil), obs := [], pins := [] }
noncomputable def D_lw_FnExactStaticPlan : FD where
 A := A_lw_FnExactStaticPlan
 ins := I_lw_FnExactStaticPlan
 lend := []
 R := Bool
 F := fun x => F_lw_FnExactStaticPlan x.1.1.1 x.1.1.2.1 x.1.1.2.2.1 x.1.1.2.2.2.1
 emb := fun r => ([.dat .bool r], [])
noncomputable def E_lw_FnExactStaticPlan : Env := envOf [(13, D_lw_szSeason), (15, D_lw_toSeason), (34, D_sp_StaticPlan), (35, D_im_StaticPlan), (22, D_lw_eqIntSS), (17, D_lw_eqSeason), (27, D_lw_markSeason), (28, D_lw_markIntSS), (29, D_lw_heldIntSS)]
noncomputable def Z_lw_FnExactStaticPlan : Nat → Nat → List Nat := fun r i => match look [(5, [(2, [21])])] r with
 | some l => (look l i).getD []
 | none => []
noncomputable def O_lw_FnExactStaticPlan : List (Nat × LD) := []
noncomputable def C_lw_FnExactStaticPlan : Code := (f9.body).getD .skip
end Go.Proofs.Ytlmbhkmaflhagaa
