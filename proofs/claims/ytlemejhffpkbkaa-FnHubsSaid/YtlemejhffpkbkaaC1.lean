import Derived.Test.YtlemejhffpkbkaaB37
import Derived.Test.YtlemejhffpkbkaaProg
namespace Go.Proofs.Ytlemejhffpkbkaa
open Go.Proofs.Try
noncomputable def tabl : List (Nat × TD) := [(1, .other), (3, .sc (.int .i64)), (4, .sc .bool), (5, .sc (.int .u8)), (22, .sl 24 (.slice (.int .i64)) 24), (24, .sl 3 (.int .i64) 8), (55, .sl 5 (.int .u8) 1), (111, .sc (.int .u64)), (113, .st (.pair (.slice (.int .u8)) (.pair (.int .i64) (.int .u64))) [(55, (.slice (.int .u8))), (3, (.int .i64)), (111, (.int .u64))])]
noncomputable def tt : Nat → TD := fun i => match look tabl i with
  | some d => d
  | none => .no
noncomputable def T_lw_rBig (a1_ : List (Int)) : Tr (Bool) :=
  .l (decide ((65536 : Int) < ((List.length a1_ : Nat) : Int)))
noncomputable def F_lw_rBig (a1_ : List (Int)) : Option (Bool) := (T_lw_rBig a1_).ev
noncomputable def A_lw_rBig : Sh := (.cons (.dat (.slice (.int .u8))) .nil)
noncomputable def I_lw_rBig : List (Nat × OSh) := []
noncomputable def K_lw_rBig : RetK := { acts := [], res := [.tmp 2], sh := (.cons (.dat .bool) .nil), obs := [], pins := [] }
noncomputable def D_lw_rBig : FD where
  A := A_lw_rBig
  ins := I_lw_rBig
  lend := []
  R := Bool
  F := fun x => F_lw_rBig x.1.1
  emb := fun r => ([.dat .bool r], [])
noncomputable def E_lw_rBig : Env := envOf []
noncomputable def Z_lw_rBig : Nat → Nat → List Nat := fun _ _ => []
noncomputable def O_lw_rBig : List (Nat × LD) := []
noncomputable def C_lw_rBig : Code := (f51.body).getD .skip
noncomputable def T_sp_l1Cur_next (a1_ : List (Int)) (a2_ : Int) (a3_ : Int) : Tr ((Int) × ((List (Int)) × ((Int) × (Int)))) :=
  .t (decide (a2_ < ((List.length a1_ : Nat) : Int)))
    (.g (inR a2_ (List.length a1_)) <|
      .t (decide ((IntKind.wrap .i64 (a2_ + (1 : Int))) ≤ ((List.length a1_ : Nat) : Int)))
        (.l ((IntKind.wrap .i64 (List.getD a1_ (Int.toNat a2_) (0 : Int))), (a1_, ((IntKind.wrap .i64 (a2_ + (1 : Int))), (IntKind.wrap .u64 ((IntKind.wrap .u64 ((IntKind.wrap .u64 (a3_ * (6364136223846793005 : Int))) + (IntKind.wrap .u64 (IntKind.wrap .i64 (List.getD a1_ (Int.toNat a2_) (0 : Int)))))) + (462197 : Int)))))))
        (.g (decide ((0 : Int) ≤ (40 : Int))) <|
          .l ((IntKind.wrap .i64 (IntKind.wrap .u64 (BitVec.toNat ((BitVec.ofInt (IntKind.bits .u64) (Int.fdiv (IntKind.wrap .u64 ((IntKind.wrap .u64 ((IntKind.wrap .u64 (a3_ * (6364136223846793005 : Int))) + (IntKind.wrap .u64 (IntKind.wrap .i64 (List.getD a1_ (Int.toNat a2_) (0 : Int)))))) + (462197 : Int))) (2 ^ (min (Int.toNat (40 : Int)) (IntKind.bits .u64))))) &&& (BitVec.ofInt (IntKind.bits .u64) (255 : Int)))))), (a1_, ((IntKind.wrap .i64 (a2_ + (1 : Int))), (IntKind.wrap .u64 ((IntKind.wrap .u64 ((IntKind.wrap .u64 (a3_ * (6364136223846793005 : Int))) + (IntKind.wrap .u64 (IntKind.wrap .i64 (List.getD a1_ (Int.toNat a2_) (0 : Int)))))) + (462197 : Int))))))))
    (.t (decide ((IntKind.wrap .i64 (a2_ + (1 : Int))) ≤ ((List.length a1_ : Nat) : Int)))
        (.l ((0 : Int), (a1_, ((IntKind.wrap .i64 (a2_ + (1 : Int))), (IntKind.wrap .u64 ((IntKind.wrap .u64 ((IntKind.wrap .u64 (a3_ * (6364136223846793005 : Int))) + (IntKind.wrap .u64 (0 : Int)))) + (462197 : Int)))))))
        (.g (decide ((0 : Int) ≤ (40 : Int))) <|
          .l ((IntKind.wrap .i64 (IntKind.wrap .u64 (BitVec.toNat ((BitVec.ofInt (IntKind.bits .u64) (Int.fdiv (IntKind.wrap .u64 ((IntKind.wrap .u64 ((IntKind.wrap .u64 (a3_ * (6364136223846793005 : Int))) + (IntKind.wrap .u64 (0 : Int)))) + (462197 : Int))) (2 ^ (min (Int.toNat (40 : Int)) (IntKind.bits .u64))))) &&& (BitVec.ofInt (IntKind.bits .u64) (255 : Int)))))), (a1_, ((IntKind.wrap .i64 (a2_ + (1 : Int))), (IntKind.wrap .u64 ((IntKind.wrap .u64 ((IntKind.wrap .u64 (a3_ * (6364136223846793005 : Int))) + (IntKind.wrap .u64 (0 : Int)))) + (462197 : Int))))))))
noncomputable def F_sp_l1Cur_next (a1_ : List (Int)) (a2_ : Int) (a3_ : Int) : Option ((Int) × ((List (Int)) × ((Int) × (Int)))) := (T_sp_l1Cur_next a1_ a2_ a3_).ev
noncomputable def A_sp_l1Cur_next : Sh := (.cons (.box 64 0) .nil)
noncomputable def I_sp_l1Cur_next : List (Nat × OSh) := [(64, .cells (.cons (.dat (.slice (.int .u8))) (.cons (.dat (.int .i64)) (.cons (.dat (.int .u64)) .nil))))]
noncomputable def K_sp_l1Cur_next : RetK := { acts := [], res := [.tmp 2], sh := (.cons (.dat (.int .i64)) .nil), obs := [(64, .cells (.cons (.dat (.slice (.int .u8))) (.cons (.dat (.int .i64)) (.cons (.dat (.int .u64)) .nil))))], pins := [(0, 0, 64)] }
noncomputable def D_sp_l1Cur_next : FD where
  A := A_sp_l1Cur_next
  ins := I_sp_l1Cur_next
  lend := [.arg 0]
  R := (Int) × ((List (Int)) × ((Int) × (Int)))
  F := fun x => F_sp_l1Cur_next x.2.1.1 x.2.1.2.1 x.2.1.2.2.1
  emb := fun r => ([.dat (.int .i64) r.1], [(64, .cells [.dat (.slice (.int .u8)) r.2.1, .dat (.int .i64) r.2.2.1, .dat (.int .u64) r.2.2.2])])
noncomputable def E_sp_l1Cur_next : Env := envOf []
noncomputable def Z_sp_l1Cur_next : Nat → Nat → List Nat := fun _ _ => []
noncomputable def O_sp_l1Cur_next : List (Nat × LD) := []
noncomputable def C_sp_l1Cur_next : Code := (f201.body).getD .skip
noncomputable def T_sp_l1Cur_pick (a4_ : Int) (a1_ : List (Int)) (a2_ : Int) (a3_ : Int) : Tr ((Int) × ((List (Int)) × ((Int) × (Int)))) :=
  .t (decide (a4_ ≤ (1 : Int)))
    (.l ((0 : Int), (a1_, (a2_, a3_))))
    (.c ((Int) × ((List (Int)) × ((Int) × (Int)))) (F_sp_l1Cur_next a1_ a2_ a3_) fun r1_ =>
      .t (decide ((200 : Int) < a4_))
        (.c ((Int) × ((List (Int)) × ((Int) × (Int)))) (F_sp_l1Cur_next r1_.2.1 r1_.2.2.1 r1_.2.2.2) fun r2_ =>
          .g (!decide (a4_ = 0)) <|
          .l ((Int.tmod (IntKind.wrap .i64 ((IntKind.wrap .i64 (r1_.1 * (256 : Int))) + r2_.1)) a4_), (r2_.2.1, (r2_.2.2.1, r2_.2.2.2))))
        (.g (!decide (a4_ = 0)) <|
          .l ((Int.tmod r1_.1 a4_), (r1_.2.1, (r1_.2.2.1, r1_.2.2.2)))))
noncomputable def F_sp_l1Cur_pick (a4_ : Int) (a1_ : List (Int)) (a2_ : Int) (a3_ : Int) : Option ((Int) × ((List (Int)) × ((Int) × (Int)))) := (T_sp_l1Cur_pick a4_ a1_ a2_ a3_).ev
noncomputable def A_sp_l1Cur_pick : Sh := (.cons (.box 64 0) (.cons (.dat (.int .i64)) .nil))
noncomputable def I_sp_l1Cur_pick : List (Nat × OSh) := [(64, .cells (.cons (.dat (.slice (.int .u8))) (.cons (.dat (.int .i64)) (.cons (.dat (.int .u64)) .nil))))]
noncomputable def K_sp_l1Cur_pick : RetK := { acts := [], res := [.tmp 4], sh := (.cons (.dat (.int .i64)) .nil), obs := [(64, .cells (.cons (.dat (.slice (.int .u8))) (.cons (.dat (.int .i64)) (.cons (.dat (.int .u64)) .nil))))], pins := [(0, 0, 64)] }
noncomputable def D_sp_l1Cur_pick : FD where
  A := A_sp_l1Cur_pick
  ins := I_sp_l1Cur_pick
  lend := [.arg 0]
  R := (Int) × ((List (Int)) × ((Int) × (Int)))
  F := fun x => F_sp_l1Cur_pick x.1.2.1 x.2.1.1 x.2.1.2.1 x.2.1.2.2.1
  emb := fun r => ([.dat (.int .i64) r.1], [(64, .cells [.dat (.slice (.int .u8)) r.2.1, .dat (.int .i64) r.2.2.1, .dat (.int .u64) r.2.2.2])])
noncomputable def E_sp_l1Cur_pick : Env := envOf [(201, D_sp_l1Cur_next)]
noncomputable def Z_sp_l1Cur_pick : Nat → Nat → List Nat := fun _ _ => []
noncomputable def O_sp_l1Cur_pick : List (Nat × LD) := []
noncomputable def C_sp_l1Cur_pick : Code := (f176.body).getD .skip
noncomputable def T_sp_l1Cur_among (a4_ : List (Int)) (a1_ : List (Int)) (a2_ : Int) (a3_ : Int) : Tr ((Int) × ((List (Int)) × ((Int) × (Int)))) :=
  .c ((Int) × ((List (Int)) × ((Int) × (Int)))) (F_sp_l1Cur_pick ((List.length a4_ : Nat) : Int) a1_ a2_ a3_) fun r1_ =>
  .g (inR r1_.1 (List.length a4_)) <|
  .l ((List.getD a4_ (Int.toNat r1_.1) (0 : Int)), (r1_.2.1, (r1_.2.2.1, r1_.2.2.2)))
noncomputable def F_sp_l1Cur_among (a4_ : List (Int)) (a1_ : List (Int)) (a2_ : Int) (a3_ : Int) : Option ((Int) × ((List (Int)) × ((Int) × (Int)))) := (T_sp_l1Cur_among a4_ a1_ a2_ a3_).ev
noncomputable def A_sp_l1Cur_among : Sh := (.cons (.box 64 0) (.cons (.dat (.slice (.int .i64))) .nil))
noncomputable def I_sp_l1Cur_among : List (Nat × OSh) := [(64, .cells (.cons (.dat (.slice (.int .u8))) (.cons (.dat (.int .i64)) (.cons (.dat (.int .u64)) .nil))))]
noncomputable def K_sp_l1Cur_among : RetK := { acts := [], res := [.tmp 4], sh := (.cons (.dat (.int .i64)) .nil), obs := [(64, .cells (.cons (.dat (.slice (.int .u8))) (.cons (.dat (.int .i64)) (.cons (.dat (.int .u64)) .nil))))], pins := [(0, 0, 64)] }
noncomputable def D_sp_l1Cur_among : FD where
  A := A_sp_l1Cur_among
  ins := I_sp_l1Cur_among
  lend := [.arg 0]
  R := (Int) × ((List (Int)) × ((Int) × (Int)))
  F := fun x => F_sp_l1Cur_among x.1.2.1 x.2.1.1 x.2.1.2.1 x.2.1.2.2.1
  emb := fun r => ([.dat (.int .i64) r.1], [(64, .cells [.dat (.slice (.int .u8)) r.2.1, .dat (.int .i64) r.2.2.1, .dat (.int .u64) r.2.2.2])])
noncomputable def E_sp_l1Cur_among : Env := envOf [(176, D_sp_l1Cur_pick)]
noncomputable def Z_sp_l1Cur_among : Nat → Nat → List Nat := fun _ _ => []
noncomputable def O_sp_l1Cur_among : List (Nat × LD) := []
noncomputable def C_sp_l1Cur_among : Code := (f128.body).getD .skip
noncomputable def T_sp_l1Least (a1_ : Int) (a2_ : Int) : Tr (Int) :=
  .t (decide (a1_ < a2_))
    (.l a1_)
    (.l a2_)
noncomputable def F_sp_l1Least (a1_ : Int) (a2_ : Int) : Option (Int) := (T_sp_l1Least a1_ a2_).ev
noncomputable def A_sp_l1Least : Sh := (.cons (.dat (.int .i64)) (.cons (.dat (.int .i64)) .nil))
noncomputable def I_sp_l1Least : List (Nat × OSh) := []
noncomputable def K_sp_l1Least : RetK := { acts := [], res := [.tmp 4], sh := (.cons (.dat (.int .i64)) .nil), obs := [], pins := [] }
noncomputable def D_sp_l1Least : FD where
  A := A_sp_l1Least
  ins := I_sp_l1Least
  lend := []
  R := Int
  F := fun x => F_sp_l1Least x.1.1 x.1.2.1
  emb := fun r => ([.dat (.int .i64) r], [])
noncomputable def E_sp_l1Least : Env := envOf []
noncomputable def Z_sp_l1Least : Nat → Nat → List Nat := fun _ _ => []
noncomputable def O_sp_l1Least : List (Nat × LD) := []
noncomputable def C_sp_l1Least : Code := (f132.body).getD .skip
noncomputable def T_sp_l1Cur_one (a4_ : Int) (a1_ : List (Int)) (a2_ : Int) (a3_ : Int) : Tr ((Bool) × ((List (Int)) × ((Int) × (Int)))) :=
  .c ((Int) × ((List (Int)) × ((Int) × (Int)))) (F_sp_l1Cur_pick a4_ a1_ a2_ a3_) fun r1_ =>
  .l ((r1_.1 == (0 : Int)), (r1_.2.1, (r1_.2.2.1, r1_.2.2.2)))
noncomputable def F_sp_l1Cur_one (a4_ : Int) (a1_ : List (Int)) (a2_ : Int) (a3_ : Int) : Option ((Bool) × ((List (Int)) × ((Int) × (Int)))) := (T_sp_l1Cur_one a4_ a1_ a2_ a3_).ev
noncomputable def A_sp_l1Cur_one : Sh := (.cons (.box 64 0) (.cons (.dat (.int .i64)) .nil))
noncomputable def I_sp_l1Cur_one : List (Nat × OSh) := [(64, .cells (.cons (.dat (.slice (.int .u8))) (.cons (.dat (.int .i64)) (.cons (.dat (.int .u64)) .nil))))]
noncomputable def K_sp_l1Cur_one : RetK := { acts := [], res := [.tmp 4], sh := (.cons (.dat .bool) .nil), obs := [(64, .cells (.cons (.dat (.slice (.int .u8))) (.cons (.dat (.int .i64)) (.cons (.dat (.int .u64)) .nil))))], pins := [(0, 0, 64)] }
noncomputable def D_sp_l1Cur_one : FD where
  A := A_sp_l1Cur_one
  ins := I_sp_l1Cur_one
  lend := [.arg 0]
  R := (Bool) × ((List (Int)) × ((Int) × (Int)))
  F := fun x => F_sp_l1Cur_one x.1.2.1 x.2.1.1 x.2.1.2.1 x.2.1.2.2.1
  emb := fun r => ([.dat .bool r.1], [(64, .cells [.dat (.slice (.int .u8)) r.2.1, .dat (.int .i64) r.2.2.1, .dat (.int .u64) r.2.2.2])])
noncomputable def E_sp_l1Cur_one : Env := envOf [(176, D_sp_l1Cur_pick)]
noncomputable def Z_sp_l1Cur_one : Nat → Nat → List Nat := fun _ _ => []
noncomputable def O_sp_l1Cur_one : List (Nat × LD) := []
noncomputable def C_sp_l1Cur_one : Code := (f175.body).getD .skip
noncomputable def T_sp_l1Most (a1_ : Int) (a2_ : Int) : Tr (Int) :=
  .t (decide (a2_ < a1_))
    (.l a1_)
    (.l a2_)
noncomputable def F_sp_l1Most (a1_ : Int) (a2_ : Int) : Option (Int) := (T_sp_l1Most a1_ a2_).ev
noncomputable def A_sp_l1Most : Sh := (.cons (.dat (.int .i64)) (.cons (.dat (.int .i64)) .nil))
noncomputable def I_sp_l1Most : List (Nat × OSh) := []
noncomputable def K_sp_l1Most : RetK := { acts := [], res := [.tmp 4], sh := (.cons (.dat (.int .i64)) .nil), obs := [], pins := [] }
noncomputable def D_sp_l1Most : FD where
  A := A_sp_l1Most
  ins := I_sp_l1Most
  lend := []
  R := Int
  F := fun x => F_sp_l1Most x.1.1 x.1.2.1
  emb := fun r => ([.dat (.int .i64) r], [])
noncomputable def E_sp_l1Most : Env := envOf []
noncomputable def Z_sp_l1Most : Nat → Nat → List Nat := fun _ _ => []
noncomputable def O_sp_l1Most : List (Nat × LD) := []
noncomputable def C_sp_l1Most : Code := (f177.body).getD .skip
noncomputable def S_sp_l1Cur_ground_0 (k : (Int) × (Bool)) (v : (Int) × ((List (Int)) × ((Int) × ((Int) × ((List (Int)) × (List (List (Int)))))))) : Tr (((Int) × ((List (Int)) × ((Int) × ((Int) × ((List (Int)) × (List (List (Int)))))))) ⊕ ((List (Int)) × ((Int) × ((Int) × ((List (Int)) × (List (List (Int)))))))) :=
  .t (decide (v.1 < k.1))
    (.c ((Int) × ((List (Int)) × ((Int) × (Int)))) (F_sp_l1Cur_pick (30 : Int) v.2.1 v.2.2.1 v.2.2.2.1) fun r12_ =>
      .g (decide ((List.length v.2.2.2.2.1 + List.length ([r12_.1] : List (Int))) * 8 ≤ 140737488355328)) <|
      .g (decide ((0 : Int) ≤ k.1) && decide (k.1 ≤ k.1) && decide (((8 : Nat) : Int) * k.1 ≤ 281474976710656)) <|
      .g (decide ((List.length v.2.2.2.2.2 + 1) * 24 ≤ 140737488355328)) <|
      .l (.inl ((IntKind.wrap .i64 (v.1 + (1 : Int))), (r12_.2.1, (r12_.2.2.1, (r12_.2.2.2, ((v.2.2.2.2.1 ++ ([r12_.1] : List (Int))), (List.set (v.2.2.2.2.2 ++ [[]]) (List.length v.2.2.2.2.2) (List.replicate (Int.toNat k.1) (0 : Int))))))))))
    (.l (.inr (v.2.1, (v.2.2.1, (v.2.2.2.1, (v.2.2.2.2.1, v.2.2.2.2.2))))))
noncomputable def L_sp_l1Cur_ground_0 (k : (Int) × (Bool)) (v : (Int) × ((List (Int)) × ((Int) × ((Int) × ((List (Int)) × (List (List (Int)))))))) : Option ((List (Int)) × ((Int) × ((Int) × ((List (Int)) × (List (List (Int))))))) := iter (fun v => (S_sp_l1Cur_ground_0 k v).ev) v
noncomputable def DL_sp_l1Cur_ground_0 : LD where
  head := { acts := [], S := { slots := [0, 5, 6, 7, 8, 9], sh := (.cons (.box 64 0) (.cons (.dat (.int .i64)) (.cons (.dat .bool) (.cons (.arr 24) (.cons (.arr 25) (.cons (.dat (.int .i64)) .nil)))))), obs := [(64, .cells (.cons (.dat (.slice (.int .u8))) (.cons (.dat (.int .i64)) (.cons (.dat (.int .u64)) .nil)))), (24, .arr 3 (.int .i64)), (25, .rows 24 3 (.int .i64))] } }
  exits := [(0, { acts := [], S := { slots := [0, 5, 6, 7, 8], sh := (.cons (.box 64 0) (.cons (.dat (.int .i64)) (.cons (.dat .bool) (.cons (.arr 24) (.cons (.arr 25) .nil))))), obs := [(64, .cells (.cons (.dat (.slice (.int .u8))) (.cons (.dat (.int .i64)) (.cons (.dat (.int .u64)) .nil)))), (24, .arr 3 (.int .i64)), (25, .rows 24 3 (.int .i64))] } })]
  rets := { acts := [], S := { slots := [], sh := .nil, obs := [] } }
  K := (Int) × (Bool)
  V := (Int) × ((List (Int)) × ((Int) × ((Int) × ((List (Int)) × (List (List (Int)))))))
  R := (List (Int)) × ((Int) × ((Int) × ((List (Int)) × (List (List (Int))))))
  join := fun k v => (((), (k.1, (k.2, ((), ((), (v.1, ())))))), ((v.2.1, (v.2.2.1, (v.2.2.2.1, ()))), (v.2.2.2.2.1, (v.2.2.2.2.2, ()))))
  sk := fun t => (t.1.2.1, t.1.2.2.1)
  sv := fun t => (t.1.2.2.2.2.2.1, (t.2.1.1, (t.2.1.2.1, (t.2.1.2.2.1, (t.2.2.1, t.2.2.2.1)))))
  step := S_sp_l1Cur_ground_0
  leaf := fun k r => .l (.exit 0 (mkSt ({ slots := [0, 5, 6, 7, 8], sh := (.cons (.box 64 0) (.cons (.dat (.int .i64)) (.cons (.dat .bool) (.cons (.arr 24) (.cons (.arr 25) .nil))))), obs := [(64, .cells (.cons (.dat (.slice (.int .u8))) (.cons (.dat (.int .i64)) (.cons (.dat (.int .u64)) .nil)))), (24, .arr 3 (.int .i64)), (25, .rows 24 3 (.int .i64))] }) (((), (k.1, (k.2, ((), ((), ()))))), ((r.1, (r.2.1, (r.2.2.1, ()))), (r.2.2.2.1, (r.2.2.2.2, ()))))))
noncomputable def S_sp_l1Cur_ground_4 (k : (Int) × ((Bool) × ((Int) × (List (Int))))) (v : (Int) × ((List (Int)) × ((Int) × ((Int) × (List (List (Int))))))) : Tr (((Int) × ((List (Int)) × ((Int) × ((Int) × (List (List (Int))))))) ⊕ ((List (Int)) × ((Int) × ((Int) × (List (List (Int))))))) :=
  .t (decide (v.1 < k.2.2.1))
    (.c ((Int) × ((List (Int)) × ((Int) × (Int)))) (F_sp_l1Cur_pick (12 : Int) v.2.1 v.2.2.1 v.2.2.2.1) fun r38_ =>
      .t k.2.1
        (.g (inR k.2.2.1 (List.length k.2.2.2)) <|
          .g (decide ((Int.toNat k.2.2.1) < List.length k.2.2.2)) <|
          .g (inR v.1 (List.length k.2.2.2)) <|
          .g (decide ((Int.toNat v.1) < List.length k.2.2.2)) <|
          .g (inR v.1 (List.length k.2.2.2)) <|
          .g (decide ((Int.toNat v.1) < List.length k.2.2.2)) <|
          .g (inR k.2.2.1 (List.length k.2.2.2)) <|
          .g (decide ((Int.toNat k.2.2.1) < List.length k.2.2.2)) <|
          .c (Int) (F_sp_l1Most (IntKind.wrap .i64 ((List.getD k.2.2.2 (Int.toNat k.2.2.1) (0 : Int)) - (List.getD k.2.2.2 (Int.toNat v.1) (0 : Int)))) (IntKind.wrap .i64 ((List.getD k.2.2.2 (Int.toNat v.1) (0 : Int)) - (List.getD k.2.2.2 (Int.toNat k.2.2.1) (0 : Int))))) fun r39_ =>
          .g (inR k.2.2.1 (List.length v.2.2.2.2)) <|
          .g (decide ((Int.toNat k.2.2.1) < List.length v.2.2.2.2)) <|
          .g (inR v.1 (List.length (List.getD v.2.2.2.2 (Int.toNat k.2.2.1) ([] : List (Int))))) <|
          .g (decide ((Int.toNat v.1) < List.length (List.getD v.2.2.2.2 (Int.toNat k.2.2.1) ([] : List (Int))))) <|
          .g (inR v.1 (List.length (List.set v.2.2.2.2 (Int.toNat k.2.2.1) (List.set (List.getD v.2.2.2.2 (Int.toNat k.2.2.1) ([] : List (Int))) (Int.toNat v.1) r39_)))) <|
          .g (decide ((Int.toNat v.1) < List.length (List.set v.2.2.2.2 (Int.toNat k.2.2.1) (List.set (List.getD v.2.2.2.2 (Int.toNat k.2.2.1) ([] : List (Int))) (Int.toNat v.1) r39_)))) <|
          .g (inR k.2.2.1 (List.length (List.getD (List.set v.2.2.2.2 (Int.toNat k.2.2.1) (List.set (List.getD v.2.2.2.2 (Int.toNat k.2.2.1) ([] : List (Int))) (Int.toNat v.1) r39_)) (Int.toNat v.1) ([] : List (Int))))) <|
          .g (decide ((Int.toNat k.2.2.1) < List.length (List.getD (List.set v.2.2.2.2 (Int.toNat k.2.2.1) (List.set (List.getD v.2.2.2.2 (Int.toNat k.2.2.1) ([] : List (Int))) (Int.toNat v.1) r39_)) (Int.toNat v.1) ([] : List (Int))))) <|
          .l (.inl ((IntKind.wrap .i64 (v.1 + (1 : Int))), (r38_.2.1, (r38_.2.2.1, (r38_.2.2.2, (List.set (List.set v.2.2.2.2 (Int.toNat k.2.2.1) (List.set (List.getD v.2.2.2.2 (Int.toNat k.2.2.1) ([] : List (Int))) (Int.toNat v.1) r39_)) (Int.toNat v.1) (List.set (List.getD (List.set v.2.2.2.2 (Int.toNat k.2.2.1) (List.set (List.getD v.2.2.2.2 (Int.toNat k.2.2.1) ([] : List (Int))) (Int.toNat v.1) r39_)) (Int.toNat v.1) ([] : List (Int))) (Int.toNat k.2.2.1) r39_))))))))
        (.g (inR k.2.2.1 (List.length v.2.2.2.2)) <|
          .g (decide ((Int.toNat k.2.2.1) < List.length v.2.2.2.2)) <|
          .g (inR v.1 (List.length (List.getD v.2.2.2.2 (Int.toNat k.2.2.1) ([] : List (Int))))) <|
          .g (decide ((Int.toNat v.1) < List.length (List.getD v.2.2.2.2 (Int.toNat k.2.2.1) ([] : List (Int))))) <|
          .g (inR v.1 (List.length (List.set v.2.2.2.2 (Int.toNat k.2.2.1) (List.set (List.getD v.2.2.2.2 (Int.toNat k.2.2.1) ([] : List (Int))) (Int.toNat v.1) r38_.1)))) <|
          .g (decide ((Int.toNat v.1) < List.length (List.set v.2.2.2.2 (Int.toNat k.2.2.1) (List.set (List.getD v.2.2.2.2 (Int.toNat k.2.2.1) ([] : List (Int))) (Int.toNat v.1) r38_.1)))) <|
          .g (inR k.2.2.1 (List.length (List.getD (List.set v.2.2.2.2 (Int.toNat k.2.2.1) (List.set (List.getD v.2.2.2.2 (Int.toNat k.2.2.1) ([] : List (Int))) (Int.toNat v.1) r38_.1)) (Int.toNat v.1) ([] : List (Int))))) <|
          .g (decide ((Int.toNat k.2.2.1) < List.length (List.getD (List.set v.2.2.2.2 (Int.toNat k.2.2.1) (List.set (List.getD v.2.2.2.2 (Int.toNat k.2.2.1) ([] : List (Int))) (Int.toNat v.1) r38_.1)) (Int.toNat v.1) ([] : List (Int))))) <|
          .l (.inl ((IntKind.wrap .i64 (v.1 + (1 : Int))), (r38_.2.1, (r38_.2.2.1, (r38_.2.2.2, (List.set (List.set v.2.2.2.2 (Int.toNat k.2.2.1) (List.set (List.getD v.2.2.2.2 (Int.toNat k.2.2.1) ([] : List (Int))) (Int.toNat v.1) r38_.1)) (Int.toNat v.1) (List.set (List.getD (List.set v.2.2.2.2 (Int.toNat k.2.2.1) (List.set (List.getD v.2.2.2.2 (Int.toNat k.2.2.1) ([] : List (Int))) (Int.toNat v.1) r38_.1)) (Int.toNat v.1) ([] : List (Int))) (Int.toNat k.2.2.1) r38_.1)))))))))
    (.l (.inr (v.2.1, (v.2.2.1, (v.2.2.2.1, v.2.2.2.2)))))
noncomputable def L_sp_l1Cur_ground_4 (k : (Int) × ((Bool) × ((Int) × (List (Int))))) (v : (Int) × ((List (Int)) × ((Int) × ((Int) × (List (List (Int))))))) : Option ((List (Int)) × ((Int) × ((Int) × (List (List (Int)))))) := iter (fun v => (S_sp_l1Cur_ground_4 k v).ev) v
noncomputable def DL_sp_l1Cur_ground_4 : LD where
  head := { acts := [], S := { slots := [0, 5, 6, 7, 8, 10, 11], sh := (.cons (.box 64 0) (.cons (.dat (.int .i64)) (.cons (.dat .bool) (.cons (.arr 24) (.cons (.arr 25) (.cons (.dat (.int .i64)) (.cons (.dat (.int .i64)) .nil))))))), obs := [(64, .cells (.cons (.dat (.slice (.int .u8))) (.cons (.dat (.int .i64)) (.cons (.dat (.int .u64)) .nil)))), (24, .arr 3 (.int .i64)), (25, .rows 24 3 (.int .i64))] } }
  exits := [(4, { acts := [], S := { slots := [0, 5, 6, 7, 8, 10], sh := (.cons (.box 64 0) (.cons (.dat (.int .i64)) (.cons (.dat .bool) (.cons (.arr 24) (.cons (.arr 25) (.cons (.dat (.int .i64)) .nil)))))), obs := [(64, .cells (.cons (.dat (.slice (.int .u8))) (.cons (.dat (.int .i64)) (.cons (.dat (.int .u64)) .nil)))), (24, .arr 3 (.int .i64)), (25, .rows 24 3 (.int .i64))] } })]
  rets := { acts := [], S := { slots := [], sh := .nil, obs := [] } }
  K := (Int) × ((Bool) × ((Int) × (List (Int))))
  V := (Int) × ((List (Int)) × ((Int) × ((Int) × (List (List (Int))))))
  R := (List (Int)) × ((Int) × ((Int) × (List (List (Int)))))
  join := fun k v => (((), (k.1, (k.2.1, ((), ((), (k.2.2.1, (v.1, ()))))))), ((v.2.1, (v.2.2.1, (v.2.2.2.1, ()))), (k.2.2.2, (v.2.2.2.2, ()))))
  sk := fun t => (t.1.2.1, (t.1.2.2.1, (t.1.2.2.2.2.2.1, t.2.2.1)))
  sv := fun t => (t.1.2.2.2.2.2.2.1, (t.2.1.1, (t.2.1.2.1, (t.2.1.2.2.1, t.2.2.2.1))))
  step := S_sp_l1Cur_ground_4
  leaf := fun k r => .l (.exit 4 (mkSt ({ slots := [0, 5, 6, 7, 8, 10], sh := (.cons (.box 64 0) (.cons (.dat (.int .i64)) (.cons (.dat .bool) (.cons (.arr 24) (.cons (.arr 25) (.cons (.dat (.int .i64)) .nil)))))), obs := [(64, .cells (.cons (.dat (.slice (.int .u8))) (.cons (.dat (.int .i64)) (.cons (.dat (.int .u64)) .nil)))), (24, .arr 3 (.int .i64)), (25, .rows 24 3 (.int .i64))] }) (((), (k.1, (k.2.1, ((), ((), (k.2.2.1, ())))))), ((r.1, (r.2.1, (r.2.2.1, ()))), (k.2.2.2, (r.2.2.2, ()))))))
noncomputable def S_sp_l1Cur_ground_2 (k : (Int) × ((Bool) × (List (Int)))) (v : (Int) × ((List (Int)) × ((Int) × ((Int) × (List (List (Int))))))) : Tr (((Int) × ((List (Int)) × ((Int) × ((Int) × (List (List (Int))))))) ⊕ ((List (Int)) × ((Int) × ((Int) × (List (List (Int))))))) :=
  .t (decide (v.1 < k.1))
    (.c ((List (Int)) × ((Int) × ((Int) × (List (List (Int)))))) (L_sp_l1Cur_ground_4 (k.1, (k.2.1, (v.1, k.2.2))) ((0 : Int), (v.2.1, (v.2.2.1, (v.2.2.2.1, v.2.2.2.2))))) fun r48_ =>
      .l (.inl ((IntKind.wrap .i64 (v.1 + (1 : Int))), (r48_.1, (r48_.2.1, (r48_.2.2.1, r48_.2.2.2))))))
    (.l (.inr (v.2.1, (v.2.2.1, (v.2.2.2.1, v.2.2.2.2)))))
noncomputable def L_sp_l1Cur_ground_2 (k : (Int) × ((Bool) × (List (Int)))) (v : (Int) × ((List (Int)) × ((Int) × ((Int) × (List (List (Int))))))) : Option ((List (Int)) × ((Int) × ((Int) × (List (List (Int)))))) := iter (fun v => (S_sp_l1Cur_ground_2 k v).ev) v
noncomputable def DL_sp_l1Cur_ground_2 : LD where
  head := { acts := [], S := { slots := [0, 5, 6, 7, 8, 10], sh := (.cons (.box 64 0) (.cons (.dat (.int .i64)) (.cons (.dat .bool) (.cons (.arr 24) (.cons (.arr 25) (.cons (.dat (.int .i64)) .nil)))))), obs := [(64, .cells (.cons (.dat (.slice (.int .u8))) (.cons (.dat (.int .i64)) (.cons (.dat (.int .u64)) .nil)))), (24, .arr 3 (.int .i64)), (25, .rows 24 3 (.int .i64))] } }
  exits := [(2, { acts := [], S := { slots := [0, 5, 6, 8], sh := (.cons (.box 64 0) (.cons (.dat (.int .i64)) (.cons (.dat .bool) (.cons (.arr 25) .nil)))), obs := [(64, .cells (.cons (.dat (.slice (.int .u8))) (.cons (.dat (.int .i64)) (.cons (.dat (.int .u64)) .nil)))), (25, .rows 24 3 (.int .i64))] } })]
  rets := { acts := [], S := { slots := [], sh := .nil, obs := [] } }
  K := (Int) × ((Bool) × (List (Int)))
  V := (Int) × ((List (Int)) × ((Int) × ((Int) × (List (List (Int))))))
  R := (List (Int)) × ((Int) × ((Int) × (List (List (Int)))))
  join := fun k v => (((), (k.1, (k.2.1, ((), ((), (v.1, ())))))), ((v.2.1, (v.2.2.1, (v.2.2.2.1, ()))), (k.2.2, (v.2.2.2.2, ()))))
  sk := fun t => (t.1.2.1, (t.1.2.2.1, t.2.2.1))
  sv := fun t => (t.1.2.2.2.2.2.1, (t.2.1.1, (t.2.1.2.1, (t.2.1.2.2.1, t.2.2.2.1))))
  step := S_sp_l1Cur_ground_2
  leaf := fun k r => .l (.exit 2 (mkSt ({ slots := [0, 5, 6, 8], sh := (.cons (.box 64 0) (.cons (.dat (.int .i64)) (.cons (.dat .bool) (.cons (.arr 25) .nil)))), obs := [(64, .cells (.cons (.dat (.slice (.int .u8))) (.cons (.dat (.int .i64)) (.cons (.dat (.int .u64)) .nil)))), (25, .rows 24 3 (.int .i64))] }) (((), (k.1, (k.2.1, ((), ())))), ((r.1, (r.2.1, (r.2.2.1, ()))), (r.2.2.2, ())))))
noncomputable def S_sp_l1Cur_ground_12 (k : (Int) × ((Bool) × ((Int) × ((Int) × ((Int) × ((List (Int)) × ((Int) × (Int)))))))) (v : (Int) × (List (List (Int)))) : Tr (((Int) × (List (List (Int)))) ⊕ (List (List (Int)))) :=
  .t (decide (v.1 < k.1))
    (.g (inR k.2.2.2.1 (List.length v.2)) <|
      .g (decide ((Int.toNat k.2.2.2.1) < List.length v.2)) <|
      .g (inR k.2.2.2.1 (List.length v.2)) <|
      .g (decide ((Int.toNat k.2.2.2.1) < List.length v.2)) <|
      .g (inR k.2.2.2.2.1 (List.length (List.getD v.2 (Int.toNat k.2.2.2.1) ([] : List (Int))))) <|
      .g (decide ((Int.toNat k.2.2.2.2.1) < List.length (List.getD v.2 (Int.toNat k.2.2.2.1) ([] : List (Int))))) <|
      .g (inR k.2.2.2.1 (List.length v.2)) <|
      .g (decide ((Int.toNat k.2.2.2.1) < List.length v.2)) <|
      .g (inR v.1 (List.length (List.getD v.2 (Int.toNat k.2.2.2.1) ([] : List (Int))))) <|
      .g (decide ((Int.toNat v.1) < List.length (List.getD v.2 (Int.toNat k.2.2.2.1) ([] : List (Int))))) <|
      .g (inR v.1 (List.length v.2)) <|
      .g (decide ((Int.toNat v.1) < List.length v.2)) <|
      .g (inR k.2.2.2.2.1 (List.length (List.getD v.2 (Int.toNat v.1) ([] : List (Int))))) <|
      .g (decide ((Int.toNat k.2.2.2.2.1) < List.length (List.getD v.2 (Int.toNat v.1) ([] : List (Int))))) <|
      .c (Int) (F_sp_l1Least (List.getD (List.getD v.2 (Int.toNat k.2.2.2.1) ([] : List (Int))) (Int.toNat k.2.2.2.2.1) (0 : Int)) (IntKind.wrap .i64 ((List.getD (List.getD v.2 (Int.toNat k.2.2.2.1) ([] : List (Int))) (Int.toNat v.1) (0 : Int)) + (List.getD (List.getD v.2 (Int.toNat v.1) ([] : List (Int))) (Int.toNat k.2.2.2.2.1) (0 : Int))))) fun r91_ =>
      .g (inR k.2.2.2.2.1 (List.length (List.getD v.2 (Int.toNat k.2.2.2.1) ([] : List (Int))))) <|
      .g (decide ((Int.toNat k.2.2.2.2.1) < List.length (List.getD v.2 (Int.toNat k.2.2.2.1) ([] : List (Int))))) <|
      .l (.inl ((IntKind.wrap .i64 (v.1 + (1 : Int))), (List.set v.2 (Int.toNat k.2.2.2.1) (List.set (List.getD v.2 (Int.toNat k.2.2.2.1) ([] : List (Int))) (Int.toNat k.2.2.2.2.1) r91_)))))
    (.l (.inr v.2))
noncomputable def L_sp_l1Cur_ground_12 (k : (Int) × ((Bool) × ((Int) × ((Int) × ((Int) × ((List (Int)) × ((Int) × (Int)))))))) (v : (Int) × (List (List (Int)))) : Option (List (List (Int))) := iter (fun v => (S_sp_l1Cur_ground_12 k v).ev) v
noncomputable def DL_sp_l1Cur_ground_12 : LD where
  head := { acts := [], S := { slots := [0, 5, 6, 8, 13, 14, 15, 16], sh := (.cons (.box 64 0) (.cons (.dat (.int .i64)) (.cons (.dat .bool) (.cons (.arr 25) (.cons (.dat (.int .i64)) (.cons (.dat (.int .i64)) (.cons (.dat (.int .i64)) (.cons (.dat (.int .i64)) .nil)))))))), obs := [(64, .cells (.cons (.dat (.slice (.int .u8))) (.cons (.dat (.int .i64)) (.cons (.dat (.int .u64)) .nil)))), (25, .rows 24 3 (.int .i64))] } }
  exits := [(12, { acts := [], S := { slots := [0, 5, 6, 8, 13, 14, 15], sh := (.cons (.box 64 0) (.cons (.dat (.int .i64)) (.cons (.dat .bool) (.cons (.arr 25) (.cons (.dat (.int .i64)) (.cons (.dat (.int .i64)) (.cons (.dat (.int .i64)) .nil))))))), obs := [(64, .cells (.cons (.dat (.slice (.int .u8))) (.cons (.dat (.int .i64)) (.cons (.dat (.int .u64)) .nil)))), (25, .rows 24 3 (.int .i64))] } })]
  rets := { acts := [], S := { slots := [], sh := .nil, obs := [] } }
  K := (Int) × ((Bool) × ((Int) × ((Int) × ((Int) × ((List (Int)) × ((Int) × (Int)))))))
  V := (Int) × (List (List (Int)))
  R := List (List (Int))
  join := fun k v => (((), (k.1, (k.2.1, ((), (k.2.2.1, (k.2.2.2.1, (k.2.2.2.2.1, (v.1, ())))))))), ((k.2.2.2.2.2.1, (k.2.2.2.2.2.2.1, (k.2.2.2.2.2.2.2, ()))), (v.2, ())))
  sk := fun t => (t.1.2.1, (t.1.2.2.1, (t.1.2.2.2.2.1, (t.1.2.2.2.2.2.1, (t.1.2.2.2.2.2.2.1, (t.2.1.1, (t.2.1.2.1, t.2.1.2.2.1)))))))
  sv := fun t => (t.1.2.2.2.2.2.2.2.1, t.2.2.1)
  step := S_sp_l1Cur_ground_12
  leaf := fun k r => .l (.exit 12 (mkSt ({ slots := [0, 5, 6, 8, 13, 14, 15], sh := (.cons (.box 64 0) (.cons (.dat (.int .i64)) (.cons (.dat .bool) (.cons (.arr 25) (.cons (.dat (.int .i64)) (.cons (.dat (.int .i64)) (.cons (.dat (.int .i64)) .nil))))))), obs := [(64, .cells (.cons (.dat (.slice (.int .u8))) (.cons (.dat (.int .i64)) (.cons (.dat (.int .u64)) .nil)))), (25, .rows 24 3 (.int .i64))] }) (((), (k.1, (k.2.1, ((), (k.2.2.1, (k.2.2.2.1, (k.2.2.2.2.1, ()))))))), ((k.2.2.2.2.2.1, (k.2.2.2.2.2.2.1, (k.2.2.2.2.2.2.2, ()))), (r, ())))))
noncomputable def S_sp_l1Cur_ground_10 (k : (Int) × ((Bool) × ((Int) × ((Int) × ((List (Int)) × ((Int) × (Int))))))) (v : (Int) × (List (List (Int)))) : Tr (((Int) × (List (List (Int)))) ⊕ (List (List (Int)))) :=
  .t (decide (v.1 < k.1))
    (.c (List (List (Int))) (L_sp_l1Cur_ground_12 (k.1, (k.2.1, (k.2.2.1, (k.2.2.2.1, (v.1, (k.2.2.2.2.1, (k.2.2.2.2.2.1, k.2.2.2.2.2.2))))))) ((0 : Int), v.2)) fun r101_ =>
      .l (.inl ((IntKind.wrap .i64 (v.1 + (1 : Int))), r101_)))
    (.l (.inr v.2))
noncomputable def L_sp_l1Cur_ground_10 (k : (Int) × ((Bool) × ((Int) × ((Int) × ((List (Int)) × ((Int) × (Int))))))) (v : (Int) × (List (List (Int)))) : Option (List (List (Int))) := iter (fun v => (S_sp_l1Cur_ground_10 k v).ev) v
noncomputable def DL_sp_l1Cur_ground_10 : LD where
  head := { acts := [], S := { slots := [0, 5, 6, 8, 13, 14, 15], sh := (.cons (.box 64 0) (.cons (.dat (.int .i64)) (.cons (.dat .bool) (.cons (.arr 25) (.cons (.dat (.int .i64)) (.cons (.dat (.int .i64)) (.cons (.dat (.int .i64)) .nil))))))), obs := [(64, .cells (.cons (.dat (.slice (.int .u8))) (.cons (.dat (.int .i64)) (.cons (.dat (.int .u64)) .nil)))), (25, .rows 24 3 (.int .i64))] } }
  exits := [(10, { acts := [], S := { slots := [0, 5, 6, 8, 13, 14], sh := (.cons (.box 64 0) (.cons (.dat (.int .i64)) (.cons (.dat .bool) (.cons (.arr 25) (.cons (.dat (.int .i64)) (.cons (.dat (.int .i64)) .nil)))))), obs := [(64, .cells (.cons (.dat (.slice (.int .u8))) (.cons (.dat (.int .i64)) (.cons (.dat (.int .u64)) .nil)))), (25, .rows 24 3 (.int .i64))] } })]
  rets := { acts := [], S := { slots := [], sh := .nil, obs := [] } }
  K := (Int) × ((Bool) × ((Int) × ((Int) × ((List (Int)) × ((Int) × (Int))))))
  V := (Int) × (List (List (Int)))
  R := List (List (Int))
  join := fun k v => (((), (k.1, (k.2.1, ((), (k.2.2.1, (k.2.2.2.1, (v.1, ()))))))), ((k.2.2.2.2.1, (k.2.2.2.2.2.1, (k.2.2.2.2.2.2, ()))), (v.2, ())))
  sk := fun t => (t.1.2.1, (t.1.2.2.1, (t.1.2.2.2.2.1, (t.1.2.2.2.2.2.1, (t.2.1.1, (t.2.1.2.1, t.2.1.2.2.1))))))
  sv := fun t => (t.1.2.2.2.2.2.2.1, t.2.2.1)
  step := S_sp_l1Cur_ground_10
  leaf := fun k r => .l (.exit 10 (mkSt ({ slots := [0, 5, 6, 8, 13, 14], sh := (.cons (.box 64 0) (.cons (.dat (.int .i64)) (.cons (.dat .bool) (.cons (.arr 25) (.cons (.dat (.int .i64)) (.cons (.dat (.int .i64)) .nil)))))), obs := [(64, .cells (.cons (.dat (.slice (.int .u8))) (.cons (.dat (.int .i64)) (.cons (.dat (.int .u64)) .nil)))), (25, .rows 24 3 (.int .i64))] }) (((), (k.1, (k.2.1, ((), (k.2.2.1, (k.2.2.2.1, ())))))), ((k.2.2.2.2.1, (k.2.2.2.2.2.1, (k.2.2.2.2.2.2, ()))), (r, ())))))
noncomputable def S_sp_l1Cur_ground_8 (k : (Int) × ((Bool) × ((Int) × ((List (Int)) × ((Int) × (Int)))))) (v : (Int) × (List (List (Int)))) : Tr (((Int) × (List (List (Int)))) ⊕ (List (List (Int)))) :=
  .t (decide (v.1 < k.1))
    (.c (List (List (Int))) (L_sp_l1Cur_ground_10 (k.1, (k.2.1, (k.2.2.1, (v.1, (k.2.2.2.1, (k.2.2.2.2.1, k.2.2.2.2.2)))))) ((0 : Int), v.2)) fun r110_ =>
      .l (.inl ((IntKind.wrap .i64 (v.1 + (1 : Int))), r110_)))
    (.l (.inr v.2))
noncomputable def L_sp_l1Cur_ground_8 (k : (Int) × ((Bool) × ((Int) × ((List (Int)) × ((Int) × (Int)))))) (v : (Int) × (List (List (Int)))) : Option (List (List (Int))) := iter (fun v => (S_sp_l1Cur_ground_8 k v).ev) v
noncomputable def DL_sp_l1Cur_ground_8 : LD where
  head := { acts := [], S := { slots := [0, 5, 6, 8, 13, 14], sh := (.cons (.box 64 0) (.cons (.dat (.int .i64)) (.cons (.dat .bool) (.cons (.arr 25) (.cons (.dat (.int .i64)) (.cons (.dat (.int .i64)) .nil)))))), obs := [(64, .cells (.cons (.dat (.slice (.int .u8))) (.cons (.dat (.int .i64)) (.cons (.dat (.int .u64)) .nil)))), (25, .rows 24 3 (.int .i64))] } }
  exits := [(8, { acts := [], S := { slots := [0, 5, 6, 8, 13], sh := (.cons (.box 64 0) (.cons (.dat (.int .i64)) (.cons (.dat .bool) (.cons (.arr 25) (.cons (.dat (.int .i64)) .nil))))), obs := [(64, .cells (.cons (.dat (.slice (.int .u8))) (.cons (.dat (.int .i64)) (.cons (.dat (.int .u64)) .nil)))), (25, .rows 24 3 (.int .i64))] } })]
  rets := { acts := [], S := { slots := [], sh := .nil, obs := [] } }
  K := (Int) × ((Bool) × ((Int) × ((List (Int)) × ((Int) × (Int)))))
  V := (Int) × (List (List (Int)))
  R := List (List (Int))
  join := fun k v => (((), (k.1, (k.2.1, ((), (k.2.2.1, (v.1, ())))))), ((k.2.2.2.1, (k.2.2.2.2.1, (k.2.2.2.2.2, ()))), (v.2, ())))
  sk := fun t => (t.1.2.1, (t.1.2.2.1, (t.1.2.2.2.2.1, (t.2.1.1, (t.2.1.2.1, t.2.1.2.2.1)))))
  sv := fun t => (t.1.2.2.2.2.2.1, t.2.2.1)
  step := S_sp_l1Cur_ground_8
  leaf := fun k r => .l (.exit 8 (mkSt ({ slots := [0, 5, 6, 8, 13], sh := (.cons (.box 64 0) (.cons (.dat (.int .i64)) (.cons (.dat .bool) (.cons (.arr 25) (.cons (.dat (.int .i64)) .nil))))), obs := [(64, .cells (.cons (.dat (.slice (.int .u8))) (.cons (.dat (.int .i64)) (.cons (.dat (.int .u64)) .nil)))), (25, .rows 24 3 (.int .i64))] }) (((), (k.1, (k.2.1, ((), (k.2.2.1, ()))))), ((k.2.2.2.1, (k.2.2.2.2.1, (k.2.2.2.2.2, ()))), (r, ())))))
noncomputable def S_sp_l1Cur_ground_6 (k : (Int) × (Bool)) (v : (Int) × ((List (Int)) × ((Int) × ((Int) × (List (List (Int))))))) : Tr (((Int) × ((List (Int)) × ((Int) × ((Int) × (List (List (Int))))))) ⊕ ((List (Int)) × ((Int) × ((Int) × (List (List (Int))))))) :=
  .t (decide (v.1 < k.1))
    (.t (!k.2)
        (.c ((Bool) × ((List (Int)) × ((Int) × (Int)))) (F_sp_l1Cur_one (2 : Int) v.2.1 v.2.2.1 v.2.2.2.1) fun r63_ =>
          .t r63_.1
            (.c (List (List (Int))) (L_sp_l1Cur_ground_8 (k.1, (k.2, (v.1, (r63_.2.1, (r63_.2.2.1, r63_.2.2.2))))) ((0 : Int), v.2.2.2.2)) fun r118_ =>
              .l (.inl ((IntKind.wrap .i64 (v.1 + (1 : Int))), (r63_.2.1, (r63_.2.2.1, (r63_.2.2.2, r118_))))))
            (.l (.inr (r63_.2.1, (r63_.2.2.1, (r63_.2.2.2, v.2.2.2.2))))))
        (.l (.inr (v.2.1, (v.2.2.1, (v.2.2.2.1, v.2.2.2.2))))))
    (.l (.inr (v.2.1, (v.2.2.1, (v.2.2.2.1, v.2.2.2.2)))))
noncomputable def L_sp_l1Cur_ground_6 (k : (Int) × (Bool)) (v : (Int) × ((List (Int)) × ((Int) × ((Int) × (List (List (Int))))))) : Option ((List (Int)) × ((Int) × ((Int) × (List (List (Int)))))) := iter (fun v => (S_sp_l1Cur_ground_6 k v).ev) v
noncomputable def DL_sp_l1Cur_ground_6 : LD where
  head := { acts := [], S := { slots := [0, 5, 6, 8, 13], sh := (.cons (.box 64 0) (.cons (.dat (.int .i64)) (.cons (.dat .bool) (.cons (.arr 25) (.cons (.dat (.int .i64)) .nil))))), obs := [(64, .cells (.cons (.dat (.slice (.int .u8))) (.cons (.dat (.int .i64)) (.cons (.dat (.int .u64)) .nil)))), (25, .rows 24 3 (.int .i64))] } }
  exits := [(6, { acts := [], S := { slots := [0, 5, 8], sh := (.cons (.box 64 0) (.cons (.dat (.int .i64)) (.cons (.arr 25) .nil))), obs := [(64, .cells (.cons (.dat (.slice (.int .u8))) (.cons (.dat (.int .i64)) (.cons (.dat (.int .u64)) .nil)))), (25, .rows 24 3 (.int .i64))] } })]
  rets := { acts := [], S := { slots := [], sh := .nil, obs := [] } }
  K := (Int) × (Bool)
  V := (Int) × ((List (Int)) × ((Int) × ((Int) × (List (List (Int))))))
  R := (List (Int)) × ((Int) × ((Int) × (List (List (Int)))))
  join := fun k v => (((), (k.1, (k.2, ((), (v.1, ()))))), ((v.2.1, (v.2.2.1, (v.2.2.2.1, ()))), (v.2.2.2.2, ())))
  sk := fun t => (t.1.2.1, t.1.2.2.1)
  sv := fun t => (t.1.2.2.2.2.1, (t.2.1.1, (t.2.1.2.1, (t.2.1.2.2.1, t.2.2.1))))
  step := S_sp_l1Cur_ground_6
  leaf := fun k r => .l (.exit 6 (mkSt ({ slots := [0, 5, 8], sh := (.cons (.box 64 0) (.cons (.dat (.int .i64)) (.cons (.arr 25) .nil))), obs := [(64, .cells (.cons (.dat (.slice (.int .u8))) (.cons (.dat (.int .i64)) (.cons (.dat (.int .u64)) .nil)))), (25, .rows 24 3 (.int .i64))] }) (((), (k.1, ((), ()))), ((r.1, (r.2.1, (r.2.2.1, ()))), (r.2.2.2, ())))))
noncomputable def T_sp_l1Cur_ground (a4_ : Int) (a1_ : List (Int)) (a2_ : Int) (a3_ : Int) : Tr ((List (List (Int))) × ((List (Int)) × ((Int) × (Int)))) :=
  .c ((Int) × ((List (Int)) × ((Int) × (Int)))) (F_sp_l1Cur_among ([(4 : Int), (5 : Int), (3 : Int), (6 : Int), (7 : Int), (2 : Int), (1 : Int), (0 : Int)] : List (Int)) a1_ a2_ a3_) fun r1_ =>
  .c (Int) (F_sp_l1Least r1_.1 a4_) fun r2_ =>
  .c ((Bool) × ((List (Int)) × ((Int) × (Int)))) (F_sp_l1Cur_one (2 : Int) r1_.2.1 r1_.2.2.1 r1_.2.2.2) fun r3_ =>
  .c ((List (Int)) × ((Int) × ((Int) × ((List (Int)) × (List (List (Int))))))) (L_sp_l1Cur_ground_0 (r2_, r3_.1) ((0 : Int), (r3_.2.1, (r3_.2.2.1, (r3_.2.2.2, (([] : List (Int)), ([] : List (List (Int))))))))) fun r20_ =>
  .c ((List (Int)) × ((Int) × ((Int) × (List (List (Int)))))) (L_sp_l1Cur_ground_2 (r2_, (r3_.1, r20_.2.2.2.1)) ((0 : Int), (r20_.1, (r20_.2.1, (r20_.2.2.1, r20_.2.2.2.2))))) fun r55_ =>
  .c ((List (Int)) × ((Int) × ((Int) × (List (List (Int)))))) (L_sp_l1Cur_ground_6 (r2_, r3_.1) ((0 : Int), (r55_.1, (r55_.2.1, (r55_.2.2.1, r55_.2.2.2))))) fun r124_ =>
  .t (decide ((1 : Int) < r2_))
    (.c ((Int) × ((List (Int)) × ((Int) × (Int)))) (F_sp_l1Cur_pick (40 : Int) r124_.1 r124_.2.1 r124_.2.2.1) fun r125_ =>
      .t (r125_.1 == (0 : Int))
        (.g (inR (0 : Int) (List.length r124_.2.2.2)) <|
          .g (decide ((Int.toNat (0 : Int)) < List.length r124_.2.2.2)) <|
          .c ((Int) × ((List (Int)) × ((Int) × (Int)))) (F_sp_l1Cur_among ([(-1 : Int), (99 : Int), (100 : Int)] : List (Int)) r125_.2.1 r125_.2.2.1 r125_.2.2.2) fun r126_ =>
          .g (inR (1 : Int) (List.length (List.getD r124_.2.2.2 (Int.toNat (0 : Int)) ([] : List (Int))))) <|
          .g (decide ((Int.toNat (1 : Int)) < List.length (List.getD r124_.2.2.2 (Int.toNat (0 : Int)) ([] : List (Int))))) <|
          .l ((List.set r124_.2.2.2 (Int.toNat (0 : Int)) (List.set (List.getD r124_.2.2.2 (Int.toNat (0 : Int)) ([] : List (Int))) (Int.toNat (1 : Int)) r126_.1)), (r126_.2.1, (r126_.2.2.1, r126_.2.2.2))))
        (.t (r125_.1 == (1 : Int))
            (.g (inR (IntKind.wrap .i64 (r2_ - (1 : Int))) (List.length r124_.2.2.2)) <|
              .g (decide ((Int.toNat (IntKind.wrap .i64 (r2_ - (1 : Int)))) < List.length r124_.2.2.2)) <|
              .g (decide ((List.length (List.getD r124_.2.2.2 (Int.toNat (IntKind.wrap .i64 (r2_ - (1 : Int)))) ([] : List (Int))) + List.length ([(0 : Int)] : List (Int))) * 8 ≤ 140737488355328)) <|
              .g (inR (IntKind.wrap .i64 (r2_ - (1 : Int))) (List.length r124_.2.2.2)) <|
              .g (decide ((Int.toNat (IntKind.wrap .i64 (r2_ - (1 : Int)))) < List.length r124_.2.2.2) && decide ((Int.toNat (IntKind.wrap .i64 (r2_ - (1 : Int)))) = (Int.toNat (IntKind.wrap .i64 (r2_ - (1 : Int)))))) <|
              .l ((List.set r124_.2.2.2 (Int.toNat (IntKind.wrap .i64 (r2_ - (1 : Int)))) ((List.getD r124_.2.2.2 (Int.toNat (IntKind.wrap .i64 (r2_ - (1 : Int)))) ([] : List (Int))) ++ ([(0 : Int)] : List (Int)))), (r125_.2.1, (r125_.2.2.1, r125_.2.2.2))))
            (.t (r125_.1 == (2 : Int))
                (.g (inR (1 : Int) (List.length r124_.2.2.2)) <|
                  .g (decide ((Int.toNat (1 : Int)) < List.length r124_.2.2.2)) <|
                  .g (inR (1 : Int) (List.length (List.getD r124_.2.2.2 (Int.toNat (1 : Int)) ([] : List (Int))))) <|
                  .g (decide ((Int.toNat (1 : Int)) < List.length (List.getD r124_.2.2.2 (Int.toNat (1 : Int)) ([] : List (Int))))) <|
                  .l ((List.set r124_.2.2.2 (Int.toNat (1 : Int)) (List.set (List.getD r124_.2.2.2 (Int.toNat (1 : Int)) ([] : List (Int))) (Int.toNat (1 : Int)) (1 : Int))), (r125_.2.1, (r125_.2.2.1, r125_.2.2.2))))
                (.l (r124_.2.2.2, (r125_.2.1, (r125_.2.2.1, r125_.2.2.2)))))))
    (.l (r124_.2.2.2, (r124_.1, (r124_.2.1, r124_.2.2.1))))
noncomputable def F_sp_l1Cur_ground (a4_ : Int) (a1_ : List (Int)) (a2_ : Int) (a3_ : Int) : Option ((List (List (Int))) × ((List (Int)) × ((Int) × (Int)))) := (T_sp_l1Cur_ground a4_ a1_ a2_ a3_).ev
noncomputable def A_sp_l1Cur_ground : Sh := (.cons (.box 64 0) (.cons (.dat (.int .i64)) .nil))
noncomputable def I_sp_l1Cur_ground : List (Nat × OSh) := [(64, .cells (.cons (.dat (.slice (.int .u8))) (.cons (.dat (.int .i64)) (.cons (.dat (.int .u64)) .nil))))]
noncomputable def K_sp_l1Cur_ground : RetK := { acts := [.ren 25 0], res := [.tmp 4], sh := (.cons (.arr 0) .nil), obs := [(0, .rows 24 3 (.int .i64)), (64, .cells (.cons (.dat (.slice (.int .u8))) (.cons (.dat (.int .i64)) (.cons (.dat (.int .u64)) .nil))))], pins := [(0, 0, 64)] }
noncomputable def D_sp_l1Cur_ground : FD where
  A := A_sp_l1Cur_ground
  ins := I_sp_l1Cur_ground
  lend := [.arg 0]
  R := (List (List (Int))) × ((List (Int)) × ((Int) × (Int)))
  F := fun x => F_sp_l1Cur_ground x.1.2.1 x.2.1.1 x.2.1.2.1 x.2.1.2.2.1
  emb := fun r => ([.arr 0], [(0, .rows 24 3 (.int .i64) r.1 none), (64, .cells [.dat (.slice (.int .u8)) r.2.1, .dat (.int .i64) r.2.2.1, .dat (.int .u64) r.2.2.2])])
noncomputable def E_sp_l1Cur_ground : Env := envOf [(128, D_sp_l1Cur_among), (132, D_sp_l1Least), (175, D_sp_l1Cur_one), (176, D_sp_l1Cur_pick), (177, D_sp_l1Most)]
noncomputable def Z_sp_l1Cur_ground : Nat → Nat → List Nat := fun r i => match look [(1, [(2, [18])]), (2, [(1, [1000000])]), (35, [(0, [60000004])])] r with
  | some l => (look l i).getD []
  | none => []
noncomputable def O_sp_l1Cur_ground : List (Nat × LD) := [(0, DL_sp_l1Cur_ground_0), (4, DL_sp_l1Cur_ground_4), (2, DL_sp_l1Cur_ground_2), (12, DL_sp_l1Cur_ground_12), (10, DL_sp_l1Cur_ground_10), (8, DL_sp_l1Cur_ground_8), (6, DL_sp_l1Cur_ground_6)]
noncomputable def C_sp_l1Cur_ground : Code := (f121.body).getD .skip
noncomputable def S_sp_l1Cur_flows_2 (k : (List (List (Int))) × ((Int) × (List (List (Int))))) (v : (Int) × ((List (Int)) × ((Int) × ((Int) × (List (Int)))))) : Tr (((Int) × ((List (Int)) × ((Int) × ((Int) × (List (Int)))))) ⊕ ((List (Int)) × ((Int) × ((Int) × (List (Int)))))) :=
  .t (decide (v.1 < ((List.length k.1 : Nat) : Int)))
    (.c ((Int) × ((List (Int)) × ((Int) × (Int)))) (F_sp_l1Cur_among ([(0 : Int), (1 : Int), (2 : Int), (5 : Int), (1 : Int), (0 : Int), (9 : Int)] : List (Int)) v.2.1 v.2.2.1 v.2.2.2.1) fun r15_ =>
      .g (decide ((List.length v.2.2.2.2 + List.length ([r15_.1] : List (Int))) * 8 ≤ 140737488355328)) <|
      .l (.inl ((IntKind.wrap .i64 (v.1 + (1 : Int))), (r15_.2.1, (r15_.2.2.1, (r15_.2.2.2, (v.2.2.2.2 ++ ([r15_.1] : List (Int)))))))))
    (.l (.inr (v.2.1, (v.2.2.1, (v.2.2.2.1, v.2.2.2.2)))))
noncomputable def L_sp_l1Cur_flows_2 (k : (List (List (Int))) × ((Int) × (List (List (Int))))) (v : (Int) × ((List (Int)) × ((Int) × ((Int) × (List (Int)))))) : Option ((List (Int)) × ((Int) × ((Int) × (List (Int))))) := iter (fun v => (S_sp_l1Cur_flows_2 k v).ev) v
noncomputable def DL_sp_l1Cur_flows_2 : LD where
  head := { acts := [], S := { slots := [0, 1, 5, 6, 7, 8], sh := (.cons (.box 64 0) (.cons (.dat (.slice (.slice (.int .i64)))) (.cons (.arr 9) (.cons (.dat (.int .i64)) (.cons (.arr 16) (.cons (.dat (.int .i64)) .nil)))))), obs := [(64, .cells (.cons (.dat (.slice (.int .u8))) (.cons (.dat (.int .i64)) (.cons (.dat (.int .u64)) .nil)))), (9, .rows 24 3 (.int .i64)), (16, .arr 3 (.int .i64))] } }
  exits := [(2, { acts := [], S := { slots := [0, 1, 5, 6, 7], sh := (.cons (.box 64 0) (.cons (.dat (.slice (.slice (.int .i64)))) (.cons (.arr 9) (.cons (.dat (.int .i64)) (.cons (.arr 16) .nil))))), obs := [(64, .cells (.cons (.dat (.slice (.int .u8))) (.cons (.dat (.int .i64)) (.cons (.dat (.int .u64)) .nil)))), (9, .rows 24 3 (.int .i64)), (16, .arr 3 (.int .i64))] } })]
  rets := { acts := [], S := { slots := [], sh := .nil, obs := [] } }
  K := (List (List (Int))) × ((Int) × (List (List (Int))))
  V := (Int) × ((List (Int)) × ((Int) × ((Int) × (List (Int)))))
  R := (List (Int)) × ((Int) × ((Int) × (List (Int))))
  join := fun k v => (((), (k.1, ((), (k.2.1, ((), (v.1, ())))))), ((v.2.1, (v.2.2.1, (v.2.2.2.1, ()))), (k.2.2, (v.2.2.2.2, ()))))
  sk := fun t => (t.1.2.1, (t.1.2.2.2.1, t.2.2.1))
  sv := fun t => (t.1.2.2.2.2.2.1, (t.2.1.1, (t.2.1.2.1, (t.2.1.2.2.1, t.2.2.2.1))))
  step := S_sp_l1Cur_flows_2
  leaf := fun k r => .l (.exit 2 (mkSt ({ slots := [0, 1, 5, 6, 7], sh := (.cons (.box 64 0) (.cons (.dat (.slice (.slice (.int .i64)))) (.cons (.arr 9) (.cons (.dat (.int .i64)) (.cons (.arr 16) .nil))))), obs := [(64, .cells (.cons (.dat (.slice (.int .u8))) (.cons (.dat (.int .i64)) (.cons (.dat (.int .u64)) .nil)))), (9, .rows 24 3 (.int .i64)), (16, .arr 3 (.int .i64))] }) (((), (k.1, ((), (k.2.1, ((), ()))))), ((r.1, (r.2.1, (r.2.2.1, ()))), (k.2.2, (r.2.2.2, ()))))))
noncomputable def S_sp_l1Cur_flows_0 (k : List (List (Int))) (v : (Int) × ((List (Int)) × ((Int) × ((Int) × (List (List (Int))))))) : Tr (((Int) × ((List (Int)) × ((Int) × ((Int) × (List (List (Int))))))) ⊕ ((List (Int)) × ((Int) × ((Int) × (List (List (Int))))))) :=
  .t (decide (v.1 < ((List.length k : Nat) : Int)))
    (.c ((List (Int)) × ((Int) × ((Int) × (List (Int))))) (L_sp_l1Cur_flows_2 (k, (v.1, v.2.2.2.2)) ((0 : Int), (v.2.1, (v.2.2.1, (v.2.2.2.1, ([] : List (Int))))))) fun r23_ =>
      .g (decide ((List.length v.2.2.2.2 + 1) * 24 ≤ 140737488355328)) <|
      .l (.inl ((IntKind.wrap .i64 (v.1 + (1 : Int))), (r23_.1, (r23_.2.1, (r23_.2.2.1, (List.set (v.2.2.2.2 ++ [[]]) (List.length v.2.2.2.2) r23_.2.2.2)))))))
    (.l (.inr (v.2.1, (v.2.2.1, (v.2.2.2.1, v.2.2.2.2)))))
noncomputable def L_sp_l1Cur_flows_0 (k : List (List (Int))) (v : (Int) × ((List (Int)) × ((Int) × ((Int) × (List (List (Int))))))) : Option ((List (Int)) × ((Int) × ((Int) × (List (List (Int)))))) := iter (fun v => (S_sp_l1Cur_flows_0 k v).ev) v
noncomputable def DL_sp_l1Cur_flows_0 : LD where
  head := { acts := [], S := { slots := [0, 1, 5, 6], sh := (.cons (.box 64 0) (.cons (.dat (.slice (.slice (.int .i64)))) (.cons (.arr 9) (.cons (.dat (.int .i64)) .nil)))), obs := [(64, .cells (.cons (.dat (.slice (.int .u8))) (.cons (.dat (.int .i64)) (.cons (.dat (.int .u64)) .nil)))), (9, .rows 24 3 (.int .i64))] } }
  exits := [(0, { acts := [], S := { slots := [0, 5], sh := (.cons (.box 64 0) (.cons (.arr 9) .nil)), obs := [(64, .cells (.cons (.dat (.slice (.int .u8))) (.cons (.dat (.int .i64)) (.cons (.dat (.int .u64)) .nil)))), (9, .rows 24 3 (.int .i64))] } })]
  rets := { acts := [], S := { slots := [], sh := .nil, obs := [] } }
  K := List (List (Int))
  V := (Int) × ((List (Int)) × ((Int) × ((Int) × (List (List (Int))))))
  R := (List (Int)) × ((Int) × ((Int) × (List (List (Int)))))
  join := fun k v => (((), (k, ((), (v.1, ())))), ((v.2.1, (v.2.2.1, (v.2.2.2.1, ()))), (v.2.2.2.2, ())))
  sk := fun t => t.1.2.1
  sv := fun t => (t.1.2.2.2.1, (t.2.1.1, (t.2.1.2.1, (t.2.1.2.2.1, t.2.2.1))))
  step := S_sp_l1Cur_flows_0
  leaf := fun _ r => .l (.exit 0 (mkSt ({ slots := [0, 5], sh := (.cons (.box 64 0) (.cons (.arr 9) .nil)), obs := [(64, .cells (.cons (.dat (.slice (.int .u8))) (.cons (.dat (.int .i64)) (.cons (.dat (.int .u64)) .nil)))), (9, .rows 24 3 (.int .i64))] }) (((), ((), ())), ((r.1, (r.2.1, (r.2.2.1, ()))), (r.2.2.2, ())))))
noncomputable def T_sp_l1Cur_flows (a4_ : List (List (Int))) (a1_ : List (Int)) (a2_ : Int) (a3_ : Int) : Tr ((List (List (Int))) × ((List (Int)) × ((Int) × (Int)))) :=
  .c ((List (Int)) × ((Int) × ((Int) × (List (List (Int)))))) (L_sp_l1Cur_flows_0 a4_ ((0 : Int), (a1_, (a2_, (a3_, ([] : List (List (Int)))))))) fun r28_ =>
  .t (decide ((0 : Int) < ((List.length r28_.2.2.2 : Nat) : Int)))
    (.c ((Int) × ((List (Int)) × ((Int) × (Int)))) (F_sp_l1Cur_pick (30 : Int) r28_.1 r28_.2.1 r28_.2.2.1) fun r29_ =>
      .t (r29_.1 == (0 : Int))
        (.g (inR (0 : Int) (List.length r28_.2.2.2)) <|
          .g (decide ((Int.toNat (0 : Int)) < List.length r28_.2.2.2)) <|
          .c ((Int) × ((List (Int)) × ((Int) × (Int)))) (F_sp_l1Cur_among ([(-1 : Int), (99 : Int), (100 : Int)] : List (Int)) r29_.2.1 r29_.2.2.1 r29_.2.2.2) fun r30_ =>
          .g (inR (0 : Int) (List.length (List.getD r28_.2.2.2 (Int.toNat (0 : Int)) ([] : List (Int))))) <|
          .g (decide ((Int.toNat (0 : Int)) < List.length (List.getD r28_.2.2.2 (Int.toNat (0 : Int)) ([] : List (Int))))) <|
          .l ((List.set r28_.2.2.2 (Int.toNat (0 : Int)) (List.set (List.getD r28_.2.2.2 (Int.toNat (0 : Int)) ([] : List (Int))) (Int.toNat (0 : Int)) r30_.1)), (r30_.2.1, (r30_.2.2.1, r30_.2.2.2))))
        (.t (r29_.1 == (1 : Int))
            (.g (decide ((0 : Int) ≤ (1 : Int)) && decide ((1 : Int) ≤ ((List.length r28_.2.2.2 : Nat) : Int))) <|
              .l ((List.drop (Int.toNat (1 : Int)) (List.take (List.length r28_.2.2.2) r28_.2.2.2)), (r29_.2.1, (r29_.2.2.1, r29_.2.2.2))))
            (.l (r28_.2.2.2, (r29_.2.1, (r29_.2.2.1, r29_.2.2.2))))))
    (.l (r28_.2.2.2, (r28_.1, (r28_.2.1, r28_.2.2.1))))
noncomputable def F_sp_l1Cur_flows (a4_ : List (List (Int))) (a1_ : List (Int)) (a2_ : Int) (a3_ : Int) : Option ((List (List (Int))) × ((List (Int)) × ((Int) × (Int)))) := (T_sp_l1Cur_flows a4_ a1_ a2_ a3_).ev
noncomputable def A_sp_l1Cur_flows : Sh := (.cons (.box 64 0) (.cons (.dat (.slice (.slice (.int .i64)))) .nil))
noncomputable def I_sp_l1Cur_flows : List (Nat × OSh) := [(64, .cells (.cons (.dat (.slice (.int .u8))) (.cons (.dat (.int .i64)) (.cons (.dat (.int .u64)) .nil))))]
noncomputable def K_sp_l1Cur_flows : RetK := { acts := [.fz 9], res := [.tmp 4], sh := (.cons (.dat (.slice (.slice (.int .i64)))) .nil), obs := [(64, .cells (.cons (.dat (.slice (.int .u8))) (.cons (.dat (.int .i64)) (.cons (.dat (.int .u64)) .nil))))], pins := [(0, 0, 64)] }
noncomputable def D_sp_l1Cur_flows : FD where
  A := A_sp_l1Cur_flows
  ins := I_sp_l1Cur_flows
  lend := [.arg 0]
  R := (List (List (Int))) × ((List (Int)) × ((Int) × (Int)))
  F := fun x => F_sp_l1Cur_flows x.1.2.1 x.2.1.1 x.2.1.2.1 x.2.1.2.2.1
  emb := fun r => ([.dat (.slice (.slice (.int .i64))) r.1], [(64, .cells [.dat (.slice (.int .u8)) r.2.1, .dat (.int .i64) r.2.2.1, .dat (.int .u64) r.2.2.2])])
noncomputable def E_sp_l1Cur_flows : Env := envOf [(128, D_sp_l1Cur_among), (176, D_sp_l1Cur_pick)]
noncomputable def Z_sp_l1Cur_flows : Nat → Nat → List Nat := fun r i => match look [(1, [(0, [1000000])]), (9, [(3, [25])]), (14, [(0, [60000004])]), (16, [(1, [49])])] r with
  | some l => (look l i).getD []
  | none => []
noncomputable def O_sp_l1Cur_flows : List (Nat × LD) := [(2, DL_sp_l1Cur_flows_2), (0, DL_sp_l1Cur_flows_0)]
noncomputable def C_sp_l1Cur_flows : Code := (f122.body).getD .skip
noncomputable def S_sp_l1Cur_hubs_0 (k : (List (List (Int))) × ((List (Int)) × ((Int) × (Int)))) (v : (Int) × (List (Int))) : Tr (((Int) × (List (Int))) ⊕ (List (Int))) :=
  .t (decide (v.1 < ((List.length k.1 : Nat) : Int)))
    (.g (decide ((List.length v.2 + List.length ([v.1] : List (Int))) * 8 ≤ 140737488355328)) <|
      .l (.inl ((IntKind.wrap .i64 (v.1 + (1 : Int))), (v.2 ++ ([v.1] : List (Int))))))
    (.l (.inr v.2))
noncomputable def L_sp_l1Cur_hubs_0 (k : (List (List (Int))) × ((List (Int)) × ((Int) × (Int)))) (v : (Int) × (List (Int))) : Option (List (Int)) := iter (fun v => (S_sp_l1Cur_hubs_0 k v).ev) v
noncomputable def DL_sp_l1Cur_hubs_0 : LD where
  head := { acts := [], S := { slots := [0, 1, 5, 6], sh := (.cons (.box 64 0) (.cons (.dat (.slice (.slice (.int .i64)))) (.cons (.arr 11) (.cons (.dat (.int .i64)) .nil)))), obs := [(64, .cells (.cons (.dat (.slice (.int .u8))) (.cons (.dat (.int .i64)) (.cons (.dat (.int .u64)) .nil)))), (11, .arr 3 (.int .i64))] } }
  exits := [(0, { acts := [], S := { slots := [0, 5], sh := (.cons (.box 64 0) (.cons (.arr 11) .nil)), obs := [(64, .cells (.cons (.dat (.slice (.int .u8))) (.cons (.dat (.int .i64)) (.cons (.dat (.int .u64)) .nil)))), (11, .arr 3 (.int .i64))] } })]
  rets := { acts := [], S := { slots := [], sh := .nil, obs := [] } }
  K := (List (List (Int))) × ((List (Int)) × ((Int) × (Int)))
  V := (Int) × (List (Int))
  R := List (Int)
  join := fun k v => (((), (k.1, ((), (v.1, ())))), ((k.2.1, (k.2.2.1, (k.2.2.2, ()))), (v.2, ())))
  sk := fun t => (t.1.2.1, (t.2.1.1, (t.2.1.2.1, t.2.1.2.2.1)))
  sv := fun t => (t.1.2.2.2.1, t.2.2.1)
  step := S_sp_l1Cur_hubs_0
  leaf := fun k r => .l (.exit 0 (mkSt ({ slots := [0, 5], sh := (.cons (.box 64 0) (.cons (.arr 11) .nil)), obs := [(64, .cells (.cons (.dat (.slice (.int .u8))) (.cons (.dat (.int .i64)) (.cons (.dat (.int .u64)) .nil)))), (11, .arr 3 (.int .i64))] }) (((), ((), ())), ((k.2.1, (k.2.2.1, (k.2.2.2, ()))), (r, ())))))
noncomputable def S_sp_l1Cur_hubs_4 (k : (Int) × ((Int) × ((List (Int)) × ((Int) × ((Int) × (List (Int))))))) (v : (Bool) × (Int)) : Tr (((Bool) × (Int)) ⊕ (Bool)) :=
  .t (decide (v.2 < ((List.length k.2.2.2.2.2 : Nat) : Int)))
    (.t v.1
        (.t (v.2 == k.1)
            (.l (.inl (true, (IntKind.wrap .i64 (v.2 + (1 : Int))))))
            (.g (inR v.2 (List.length k.2.2.2.2.2)) <|
              .g (decide ((Int.toNat v.2) < List.length k.2.2.2.2.2)) <|
              .l (.inl (((List.getD k.2.2.2.2.2 (Int.toNat v.2) (0 : Int)) != k.1), (IntKind.wrap .i64 (v.2 + (1 : Int)))))))
        (.l (.inl (false, (IntKind.wrap .i64 (v.2 + (1 : Int)))))))
    (.l (.inr v.1))
noncomputable def L_sp_l1Cur_hubs_4 (k : (Int) × ((Int) × ((List (Int)) × ((Int) × ((Int) × (List (Int))))))) (v : (Bool) × (Int)) : Option (Bool) := iter (fun v => (S_sp_l1Cur_hubs_4 k v).ev) v
noncomputable def DL_sp_l1Cur_hubs_4 : LD where
  head := { acts := [], S := { slots := [0, 5, 7, 8, 9, 10], sh := (.cons (.box 64 0) (.cons (.arr 11) (.cons (.dat (.int .i64)) (.cons (.dat (.int .i64)) (.cons (.dat .bool) (.cons (.dat (.int .i64)) .nil)))))), obs := [(64, .cells (.cons (.dat (.slice (.int .u8))) (.cons (.dat (.int .i64)) (.cons (.dat (.int .u64)) .nil)))), (11, .arr 3 (.int .i64))] } }
  exits := [(4, { acts := [], S := { slots := [0, 5, 7, 8, 9], sh := (.cons (.box 64 0) (.cons (.arr 11) (.cons (.dat (.int .i64)) (.cons (.dat (.int .i64)) (.cons (.dat .bool) .nil))))), obs := [(64, .cells (.cons (.dat (.slice (.int .u8))) (.cons (.dat (.int .i64)) (.cons (.dat (.int .u64)) .nil)))), (11, .arr 3 (.int .i64))] } })]
  rets := { acts := [], S := { slots := [], sh := .nil, obs := [] } }
  K := (Int) × ((Int) × ((List (Int)) × ((Int) × ((Int) × (List (Int))))))
  V := (Bool) × (Int)
  R := Bool
  join := fun k v => (((), ((), (k.1, (k.2.1, (v.1, (v.2, ())))))), ((k.2.2.1, (k.2.2.2.1, (k.2.2.2.2.1, ()))), (k.2.2.2.2.2, ())))
  sk := fun t => (t.1.2.2.1, (t.1.2.2.2.1, (t.2.1.1, (t.2.1.2.1, (t.2.1.2.2.1, t.2.2.1)))))
  sv := fun t => (t.1.2.2.2.2.1, t.1.2.2.2.2.2.1)
  step := S_sp_l1Cur_hubs_4
  leaf := fun k r => .l (.exit 4 (mkSt ({ slots := [0, 5, 7, 8, 9], sh := (.cons (.box 64 0) (.cons (.arr 11) (.cons (.dat (.int .i64)) (.cons (.dat (.int .i64)) (.cons (.dat .bool) .nil))))), obs := [(64, .cells (.cons (.dat (.slice (.int .u8))) (.cons (.dat (.int .i64)) (.cons (.dat (.int .u64)) .nil)))), (11, .arr 3 (.int .i64))] }) (((), ((), (k.1, (k.2.1, (r, ()))))), ((k.2.2.1, (k.2.2.2.1, (k.2.2.2.2.1, ()))), (k.2.2.2.2.2, ())))))
noncomputable def S_sp_l1Cur_hubs_2 (_k : Unit) (v : (Int) × ((List (Int)) × ((Int) × ((Int) × (List (Int)))))) : Tr (((Int) × ((List (Int)) × ((Int) × ((Int) × (List (Int)))))) ⊕ ((List (Int)) × ((Int) × ((Int) × (List (Int)))))) :=
  .t (decide (v.1 < ((List.length v.2.2.2.2 : Nat) : Int)))
    (.c ((Int) × ((List (Int)) × ((Int) × (Int)))) (F_sp_l1Cur_pick ((List.length v.2.2.2.2 : Nat) : Int) v.2.1 v.2.2.1 v.2.2.2.1) fun r17_ =>
      .c (Bool) (L_sp_l1Cur_hubs_4 (v.1, (r17_.1, (r17_.2.1, (r17_.2.2.1, (r17_.2.2.2, v.2.2.2.2))))) (true, (0 : Int))) fun r33_ =>
      .t r33_
        (.g (inR r17_.1 (List.length v.2.2.2.2)) <|
          .g (decide ((Int.toNat r17_.1) < List.length v.2.2.2.2)) <|
          .t ((List.getD v.2.2.2.2 (Int.toNat r17_.1) (0 : Int)) == r17_.1)
            (.g (inR v.1 (List.length v.2.2.2.2)) <|
              .g (decide ((Int.toNat v.1) < List.length v.2.2.2.2)) <|
              .l (.inl ((IntKind.wrap .i64 (v.1 + (1 : Int))), (r17_.2.1, (r17_.2.2.1, (r17_.2.2.2, (List.set v.2.2.2.2 (Int.toNat v.1) r17_.1)))))))
            (.l (.inl ((IntKind.wrap .i64 (v.1 + (1 : Int))), (r17_.2.1, (r17_.2.2.1, (r17_.2.2.2, v.2.2.2.2)))))))
        (.l (.inl ((IntKind.wrap .i64 (v.1 + (1 : Int))), (r17_.2.1, (r17_.2.2.1, (r17_.2.2.2, v.2.2.2.2)))))))
    (.l (.inr (v.2.1, (v.2.2.1, (v.2.2.2.1, v.2.2.2.2)))))
noncomputable def L_sp_l1Cur_hubs_2 (k : Unit) (v : (Int) × ((List (Int)) × ((Int) × ((Int) × (List (Int)))))) : Option ((List (Int)) × ((Int) × ((Int) × (List (Int))))) := iter (fun v => (S_sp_l1Cur_hubs_2 k v).ev) v
noncomputable def DL_sp_l1Cur_hubs_2 : LD where
  head := { acts := [], S := { slots := [0, 5, 7], sh := (.cons (.box 64 0) (.cons (.arr 11) (.cons (.dat (.int .i64)) .nil))), obs := [(64, .cells (.cons (.dat (.slice (.int .u8))) (.cons (.dat (.int .i64)) (.cons (.dat (.int .u64)) .nil)))), (11, .arr 3 (.int .i64))] } }
  exits := [(2, { acts := [], S := { slots := [0, 5], sh := (.cons (.box 64 0) (.cons (.arr 11) .nil)), obs := [(64, .cells (.cons (.dat (.slice (.int .u8))) (.cons (.dat (.int .i64)) (.cons (.dat (.int .u64)) .nil)))), (11, .arr 3 (.int .i64))] } })]
  rets := { acts := [], S := { slots := [], sh := .nil, obs := [] } }
  K := Unit
  V := (Int) × ((List (Int)) × ((Int) × ((Int) × (List (Int)))))
  R := (List (Int)) × ((Int) × ((Int) × (List (Int))))
  join := fun _ v => (((), ((), (v.1, ()))), ((v.2.1, (v.2.2.1, (v.2.2.2.1, ()))), (v.2.2.2.2, ())))
  sk := fun _ => ()
  sv := fun t => (t.1.2.2.1, (t.2.1.1, (t.2.1.2.1, (t.2.1.2.2.1, t.2.2.1))))
  step := S_sp_l1Cur_hubs_2
  leaf := fun _ r => .l (.exit 2 (mkSt ({ slots := [0, 5], sh := (.cons (.box 64 0) (.cons (.arr 11) .nil)), obs := [(64, .cells (.cons (.dat (.slice (.int .u8))) (.cons (.dat (.int .i64)) (.cons (.dat (.int .u64)) .nil)))), (11, .arr 3 (.int .i64))] }) (((), ((), ())), ((r.1, (r.2.1, (r.2.2.1, ()))), (r.2.2.2, ())))))
noncomputable def T_sp_l1Cur_hubs (a4_ : List (List (Int))) (a1_ : List (Int)) (a2_ : Int) (a3_ : Int) : Tr ((List (Int)) × ((List (Int)) × ((Int) × (Int)))) :=
  .c (List (Int)) (L_sp_l1Cur_hubs_0 (a4_, (a1_, (a2_, a3_))) ((0 : Int), ([] : List (Int)))) fun r11_ =>
  .c ((List (Int)) × ((Int) × ((Int) × (List (Int))))) (L_sp_l1Cur_hubs_2 () ((0 : Int), (a1_, (a2_, (a3_, r11_))))) fun r38_ =>
  .c ((Bool) × ((List (Int)) × ((Int) × (Int)))) (F_sp_l1Cur_one (16 : Int) r38_.1 r38_.2.1 r38_.2.2.1) fun r39_ =>
  .t r39_.1
    (.t (decide ((0 : Int) < ((List.length r38_.2.2.2 : Nat) : Int)))
        (.c ((Int) × ((List (Int)) × ((Int) × (Int)))) (F_sp_l1Cur_pick ((List.length r38_.2.2.2 : Nat) : Int) r39_.2.1 r39_.2.2.1 r39_.2.2.2) fun r40_ =>
          .c ((Int) × ((List (Int)) × ((Int) × (Int)))) (F_sp_l1Cur_pick (7 : Int) r40_.2.1 r40_.2.2.1 r40_.2.2.2) fun r41_ =>
          .g (inR r40_.1 (List.length r38_.2.2.2)) <|
          .g (decide ((Int.toNat r40_.1) < List.length r38_.2.2.2)) <|
          .l ((List.set r38_.2.2.2 (Int.toNat r40_.1) (IntKind.wrap .i64 (r41_.1 - (1 : Int)))), (r41_.2.1, (r41_.2.2.1, r41_.2.2.2))))
        (.l (r38_.2.2.2, (r39_.2.1, (r39_.2.2.1, r39_.2.2.2)))))
    (.l (r38_.2.2.2, (r39_.2.1, (r39_.2.2.1, r39_.2.2.2))))
noncomputable def F_sp_l1Cur_hubs (a4_ : List (List (Int))) (a1_ : List (Int)) (a2_ : Int) (a3_ : Int) : Option ((List (Int)) × ((List (Int)) × ((Int) × (Int)))) := (T_sp_l1Cur_hubs a4_ a1_ a2_ a3_).ev
noncomputable def A_sp_l1Cur_hubs : Sh := (.cons (.box 64 0) (.cons (.dat (.slice (.slice (.int .i64)))) .nil))
noncomputable def I_sp_l1Cur_hubs : List (Nat × OSh) := [(64, .cells (.cons (.dat (.slice (.int .u8))) (.cons (.dat (.int .i64)) (.cons (.dat (.int .u64)) .nil))))]
noncomputable def K_sp_l1Cur_hubs : RetK := { acts := [.ren 11 0], res := [.tmp 4], sh := (.cons (.arr 0) .nil), obs := [(0, .arr 3 (.int .i64)), (64, .cells (.cons (.dat (.slice (.int .u8))) (.cons (.dat (.int .i64)) (.cons (.dat (.int .u64)) .nil))))], pins := [(0, 0, 64)] }
noncomputable def D_sp_l1Cur_hubs : FD where
  A := A_sp_l1Cur_hubs
  ins := I_sp_l1Cur_hubs
  lend := [.arg 0]
  R := (List (Int)) × ((List (Int)) × ((Int) × (Int)))
  F := fun x => F_sp_l1Cur_hubs x.1.2.1 x.2.1.1 x.2.1.2.1 x.2.1.2.2.1
  emb := fun r => ([.arr 0], [(0, .arr 3 (.int .i64) r.1), (64, .cells [.dat (.slice (.int .u8)) r.2.1, .dat (.int .i64) r.2.2.1, .dat (.int .u64) r.2.2.2])])
noncomputable def E_sp_l1Cur_hubs : Env := envOf [(176, D_sp_l1Cur_pick), (175, D_sp_l1Cur_one)]
noncomputable def Z_sp_l1Cur_hubs : Nat → Nat → List Nat := fun _ _ => []
noncomputable def O_sp_l1Cur_hubs : List (Nat × LD) := [(0, DL_sp_l1Cur_hubs_0), (4, DL_sp_l1Cur_hubs_4), (2, DL_sp_l1Cur_hubs_2)]
noncomputable def C_sp_l1Cur_hubs : Code := (f123.body).getD .skip
noncomputable def T_sp_l1Cur_discount (a1_ : List (Int)) (a2_ : Int) (a3_ : Int) : Tr ((Int) × ((List (Int)) × ((Int) × (Int)))) :=
  .c ((Int) × ((List (Int)) × ((Int) × (Int)))) (F_sp_l1Cur_among ([(5 : Int), (7 : Int), (0 : Int), (10 : Int), (3 : Int), (8 : Int), (11 : Int), (-1 : Int)] : List (Int)) a1_ a2_ a3_) fun r1_ =>
  .l (r1_.1, (r1_.2.1, (r1_.2.2.1, r1_.2.2.2)))
noncomputable def F_sp_l1Cur_discount (a1_ : List (Int)) (a2_ : Int) (a3_ : Int) : Option ((Int) × ((List (Int)) × ((Int) × (Int)))) := (T_sp_l1Cur_discount a1_ a2_ a3_).ev
noncomputable def A_sp_l1Cur_discount : Sh := (.cons (.box 64 0) .nil)
noncomputable def I_sp_l1Cur_discount : List (Nat × OSh) := [(64, .cells (.cons (.dat (.slice (.int .u8))) (.cons (.dat (.int .i64)) (.cons (.dat (.int .u64)) .nil))))]
noncomputable def K_sp_l1Cur_discount : RetK := { acts := [], res := [.tmp 2], sh := (.cons (.dat (.int .i64)) .nil), obs := [(64, .cells (.cons (.dat (.slice (.int .u8))) (.cons (.dat (.int .i64)) (.cons (.dat (.int .u64)) .nil))))], pins := [(0, 0, 64)] }
noncomputable def D_sp_l1Cur_discount : FD where
  A := A_sp_l1Cur_discount
  ins := I_sp_l1Cur_discount
  lend := [.arg 0]
  R := (Int) × ((List (Int)) × ((Int) × (Int)))
  F := fun x => F_sp_l1Cur_discount x.2.1.1 x.2.1.2.1 x.2.1.2.2.1
  emb := fun r => ([.dat (.int .i64) r.1], [(64, .cells [.dat (.slice (.int .u8)) r.2.1, .dat (.int .i64) r.2.2.1, .dat (.int .u64) r.2.2.2])])
noncomputable def E_sp_l1Cur_discount : Env := envOf [(128, D_sp_l1Cur_among)]
noncomputable def Z_sp_l1Cur_discount : Nat → Nat → List Nat := fun r i => match look [(1, [(2, [4])])] r with
  | some l => (look l i).getD []
  | none => []
noncomputable def O_sp_l1Cur_discount : List (Nat × LD) := []
noncomputable def C_sp_l1Cur_discount : Code := (f124.body).getD .skip
noncomputable def T_sp_DrawHubCost (a1_ : List (Int)) : Tr ((List (List (Int))) × ((List (List (Int))) × ((Int) × (List (Int))))) :=
  .c ((List (List (Int))) × ((List (Int)) × ((Int) × (Int)))) (F_sp_l1Cur_ground (5 : Int) a1_ (0 : Int) (0 : Int)) fun r1_ =>
  .c ((List (List (Int))) × ((List (Int)) × ((Int) × (Int)))) (F_sp_l1Cur_flows r1_.1 r1_.2.1 r1_.2.2.1 r1_.2.2.2) fun r2_ =>
  .c ((List (Int)) × ((List (Int)) × ((Int) × (Int)))) (F_sp_l1Cur_hubs r1_.1 r2_.2.1 r2_.2.2.1 r2_.2.2.2) fun r3_ =>
  .c ((Int) × ((List (Int)) × ((Int) × (Int)))) (F_sp_l1Cur_discount r3_.2.1 r3_.2.2.1 r3_.2.2.2) fun r4_ =>
  .l (r1_.1, (r2_.1, (r4_.1, r3_.1)))
noncomputable def F_sp_DrawHubCost (a1_ : List (Int)) : Option ((List (List (Int))) × ((List (List (Int))) × ((Int) × (List (Int))))) := (T_sp_DrawHubCost a1_).ev
noncomputable def A_sp_DrawHubCost : Sh := (.cons (.dat (.slice (.int .u8))) .nil)
noncomputable def I_sp_DrawHubCost : List (Nat × OSh) := []
noncomputable def K_sp_DrawHubCost : RetK := { acts := [.ren 1344 2], res := [.tmp 2, .tmp 3, .tmp 4, .tmp 5], sh := (.cons (.dat (.slice (.slice (.int .i64)))) (.cons (.dat (.slice (.slice (.int .i64)))) (.cons (.arr 2) (.cons (.dat (.int .i64)) .nil)))), obs := [(2, .arr 3 (.int .i64))], pins := [] }
noncomputable def D_sp_DrawHubCost : FD where
  A := A_sp_DrawHubCost
  ins := I_sp_DrawHubCost
  lend := []
  R := (List (List (Int))) × ((List (List (Int))) × ((Int) × (List (Int))))
  F := fun x => F_sp_DrawHubCost x.1.1
  emb := fun r => ([.dat (.slice (.slice (.int .i64))) r.1, .dat (.slice (.slice (.int .i64))) r.2.1, .arr 2, .dat (.int .i64) r.2.2.1], [(2, .arr 3 (.int .i64) r.2.2.2)])
noncomputable def E_sp_DrawHubCost : Env := envOf [(121, D_sp_l1Cur_ground), (122, D_sp_l1Cur_flows), (123, D_sp_l1Cur_hubs), (124, D_sp_l1Cur_discount)]
noncomputable def Z_sp_DrawHubCost : Nat → Nat → List Nat := fun r i => match look [(3, [(2, [15])])] r with
  | some l => (look l i).getD []
  | none => []
noncomputable def O_sp_DrawHubCost : List (Nat × LD) := []
noncomputable def C_sp_DrawHubCost : Code := (f52.body).getD .skip
noncomputable def S_slices_IndexFunc_Sint_int_0 (k : (List (Int)) × (((HL [(.int .i64)] → Option (Bool))) × (Int))) (v : Int) : Tr ((Int) ⊕ ((Unit) ⊕ (Int))) :=
  .t (decide (v < k.2.2))
    (.g (inR v (List.length k.1)) <|
      .c (Bool) (k.2.1 ((List.getD k.1 (Int.toNat v) (0 : Int)), ())) fun r5_ =>
      .t r5_
        (.l (.inr (.inr v)))
        (.l (.inl (IntKind.wrap .i64 (v + (1 : Int))))))
    (.l (.inr (.inl ())))
noncomputable def L_slices_IndexFunc_Sint_int_0 (k : (List (Int)) × (((HL [(.int .i64)] → Option (Bool))) × (Int))) (v : Int) : Option ((Unit) ⊕ (Int)) := iter (fun v => (S_slices_IndexFunc_Sint_int_0 k v).ev) v
noncomputable def DL_slices_IndexFunc_Sint_int_0 : LD where
  head := { acts := [], S := { slots := [0, 1, 7, 8], sh := (.cons (.dat (.slice (.int .i64))) (.cons (.clo [(.int .i64)] .bool) (.cons (.dat (.int .i64)) (.cons (.dat (.int .i64)) .nil)))), obs := [] } }
  exits := [(0, { acts := [], S := { slots := [], sh := .nil, obs := [] } })]
  rets := { acts := [], S := { slots := [4], sh := (.cons (.dat (.int .i64)) .nil), obs := [] } }
  K := (List (Int)) × (((HL [(.int .i64)] → Option (Bool))) × (Int))
  V := Int
  R := (Unit) ⊕ (Int)
  join := fun k v => ((k.1, (k.2.1, (k.2.2, (v, ())))), ())
  sk := fun t => (t.1.1, (t.1.2.1, t.1.2.2.1))
  sv := fun t => t.1.2.2.2.1
  step := S_slices_IndexFunc_Sint_int_0
  leaf := fun _ r => .s (Unit) (Int) r (fun _ => .l (.exit 0 (mkSt ({ slots := [], sh := .nil, obs := [] }) ((), ())))) (fun b => .l (.ret (mkSt ({ slots := [4], sh := (.cons (.dat (.int .i64)) .nil), obs := [] }) ((b, ()), ()))))
noncomputable def T_slices_IndexFunc_Sint_int (a1_ : List (Int)) (a2_ : (HL [(.int .i64)] → Option (Bool))) : Tr (Int) :=
  .c ((Unit) ⊕ (Int)) (L_slices_IndexFunc_Sint_int_0 (a1_, (a2_, ((List.length a1_ : Nat) : Int))) (0 : Int)) fun r7_ =>
  .s (Unit) (Int) r7_
    (fun _ => .l (-1 : Int))
    (fun r9_ => .l r9_)
noncomputable def F_slices_IndexFunc_Sint_int (a1_ : List (Int)) (a2_ : (HL [(.int .i64)] → Option (Bool))) : Option (Int) := (T_slices_IndexFunc_Sint_int a1_ a2_).ev
noncomputable def A_slices_IndexFunc_Sint_int : Sh := (.cons (.dat (.slice (.int .i64))) (.cons (.clo [(.int .i64)] .bool) .nil))
noncomputable def I_slices_IndexFunc_Sint_int : List (Nat × OSh) := []
noncomputable def K_slices_IndexFunc_Sint_int : RetK := { acts := [], res := [.tmp 4], sh := (.cons (.dat (.int .i64)) .nil), obs := [], pins := [] }
noncomputable def D_slices_IndexFunc_Sint_int : FD where
  A := A_slices_IndexFunc_Sint_int
  ins := I_slices_IndexFunc_Sint_int
  lend := []
  R := Int
  F := fun x => F_slices_IndexFunc_Sint_int x.1.1 x.1.2.1
  emb := fun r => ([.dat (.int .i64) r], [])
noncomputable def E_slices_IndexFunc_Sint_int : Env := envOf []
noncomputable def Z_slices_IndexFunc_Sint_int : Nat → Nat → List Nat := fun _ _ => []
noncomputable def O_slices_IndexFunc_Sint_int : List (Nat × LD) := [(0, DL_slices_IndexFunc_Sint_int_0)]
noncomputable def C_slices_IndexFunc_Sint_int : Code := (f152.body).getD .skip
noncomputable def T_slices_ContainsFunc_Sint_int (a1_ : List (Int)) (a2_ : (HL [(.int .i64)] → Option (Bool))) : Tr (Bool) :=
  .c (Int) (F_slices_IndexFunc_Sint_int a1_ a2_) fun r1_ =>
  .l (decide ((0 : Int) ≤ r1_))
noncomputable def F_slices_ContainsFunc_Sint_int (a1_ : List (Int)) (a2_ : (HL [(.int .i64)] → Option (Bool))) : Option (Bool) := (T_slices_ContainsFunc_Sint_int a1_ a2_).ev
noncomputable def A_slices_ContainsFunc_Sint_int : Sh := (.cons (.dat (.slice (.int .i64))) (.cons (.clo [(.int .i64)] .bool) .nil))
noncomputable def I_slices_ContainsFunc_Sint_int : List (Nat × OSh) := []
noncomputable def K_slices_ContainsFunc_Sint_int : RetK := { acts := [], res := [.tmp 4], sh := (.cons (.dat .bool) .nil), obs := [], pins := [] }
noncomputable def D_slices_ContainsFunc_Sint_int : FD where
  A := A_slices_ContainsFunc_Sint_int
  ins := I_slices_ContainsFunc_Sint_int
  lend := []
  R := Bool
  F := fun x => F_slices_ContainsFunc_Sint_int x.1.1 x.1.2.1
  emb := fun r => ([.dat .bool r], [])
noncomputable def E_slices_ContainsFunc_Sint_int : Env := envOf [(152, D_slices_IndexFunc_Sint_int)]
noncomputable def Z_slices_ContainsFunc_Sint_int : Nat → Nat → List Nat := fun _ _ => []
noncomputable def O_slices_ContainsFunc_Sint_int : List (Nat × LD) := []
noncomputable def C_slices_ContainsFunc_Sint_int : Code := (f99.body).getD .skip
noncomputable def T_im_between (a1_ : Int) (a2_ : Int) (a3_ : Int) : Tr (Bool) :=
  .t (decide (a2_ ≤ a1_))
    (.l (decide (a1_ ≤ a3_)))
    (.l false)
noncomputable def F_im_between (a1_ : Int) (a2_ : Int) (a3_ : Int) : Option (Bool) := (T_im_between a1_ a2_ a3_).ev
noncomputable def A_im_between : Sh := (.cons (.dat (.int .i64)) (.cons (.dat (.int .i64)) (.cons (.dat (.int .i64)) .nil)))
noncomputable def I_im_between : List (Nat × OSh) := []
noncomputable def K_im_between : RetK := { acts := [], res := [.tmp 6], sh := (.cons (.dat .bool) .nil), obs := [], pins := [] }
noncomputable def D_im_between : FD where
  A := A_im_between
  ins := I_im_between
  lend := []
  R := Bool
  F := fun x => F_im_between x.1.1 x.1.2.1 x.1.2.2.1
  emb := fun r => ([.dat .bool r], [])
noncomputable def E_im_between : Env := envOf []
noncomputable def Z_im_between : Nat → Nat → List Nat := fun _ _ => []
noncomputable def O_im_between : List (Nat × LD) := []
noncomputable def C_im_between : Code := (f67.body).getD .skip
noncomputable def T_im_areBetween_1 (a1_ : Int) (a2_ : Int) (a3_ : Int) : Tr (Bool) :=
  .c (Bool) (F_im_between a1_ a2_ a3_) fun r1_ =>
  .l (!r1_)
noncomputable def F_im_areBetween_1 (a1_ : Int) (a2_ : Int) (a3_ : Int) : Option (Bool) := (T_im_areBetween_1 a1_ a2_ a3_).ev
noncomputable def A_im_areBetween_1 : Sh := (.cons (.dat (.int .i64)) (.cons (.ptr (.cons (.dat (.int .i64)) .nil)) (.cons (.ptr (.cons (.dat (.int .i64)) .nil)) .nil)))
noncomputable def I_im_areBetween_1 : List (Nat × OSh) := []
noncomputable def K_im_areBetween_1 : RetK := { acts := [], res := [.tmp 4], sh := (.cons (.dat .bool) .nil), obs := [], pins := [] }
noncomputable def D_im_areBetween_1 : FD where
  A := A_im_areBetween_1
  ins := I_im_areBetween_1
  lend := []
  R := Bool
  F := fun x => F_im_areBetween_1 x.1.1 x.1.2.1.1 x.1.2.2.1.1
  emb := fun r => ([.dat .bool r], [])
noncomputable def E_im_areBetween_1 : Env := envOf [(67, D_im_between)]
noncomputable def Z_im_areBetween_1 : Nat → Nat → List Nat := fun _ _ => []
noncomputable def O_im_areBetween_1 : List (Nat × LD) := []
noncomputable def C_im_areBetween_1 : Code := (f178.body).getD .skip
noncomputable def T_im_areBetween (a1_ : List (Int)) (a2_ : Int) (a3_ : Int) : Tr (Bool) :=
  .c (Bool) (F_slices_ContainsFunc_Sint_int a1_ (fun h1_ => Option.bind (F_im_areBetween_1 h1_.1 a2_ a3_) fun y2_ => some y2_)) fun r3_ =>
  .l (!r3_)
noncomputable def F_im_areBetween (a1_ : List (Int)) (a2_ : Int) (a3_ : Int) : Option (Bool) := (T_im_areBetween a1_ a2_ a3_).ev
noncomputable def A_im_areBetween : Sh := (.cons (.dat (.slice (.int .i64))) (.cons (.dat (.int .i64)) (.cons (.dat (.int .i64)) .nil)))
noncomputable def I_im_areBetween : List (Nat × OSh) := []
noncomputable def K_im_areBetween : RetK := { acts := [], res := [.tmp 6], sh := (.cons (.dat .bool) .nil), obs := [], pins := [] }
noncomputable def D_im_areBetween : FD where
  A := A_im_areBetween
  ins := I_im_areBetween
  lend := []
  R := Bool
  F := fun x => F_im_areBetween x.1.1 x.1.2.1 x.1.2.2.1
  emb := fun r => ([.dat .bool r], [])
noncomputable def E_im_areBetween : Env := envOf [(99, D_slices_ContainsFunc_Sint_int), (99, D_slices_ContainsFunc_Sint_int), (178, D_im_areBetween_1)]
noncomputable def Z_im_areBetween : Nat → Nat → List Nat := fun _ _ => []
noncomputable def O_im_areBetween : List (Nat × LD) := []
noncomputable def C_im_areBetween : Code := (f133.body).getD .skip
noncomputable def S_im_IsGround_0 (k : (List (List (Int))) × ((List (List (Int))) × (Int))) (v : Int) : Tr ((Int) ⊕ ((Unit) ⊕ (Unit))) :=
  .t (decide (v < k.2.2))
    (.g (inR v (List.length k.2.1)) <|
      .t (((List.length (List.getD k.2.1 (Int.toNat v) ([] : List (Int))) : Nat) : Int) != ((List.length k.1 : Nat) : Int))
        (.l (.inr (.inr ())))
        (.c (Bool) (F_im_areBetween (List.getD k.2.1 (Int.toNat v) ([] : List (Int))) (0 : Int) (99 : Int)) fun r5_ =>
          .t (!r5_)
            (.l (.inr (.inr ())))
            (.l (.inl (IntKind.wrap .i64 (v + (1 : Int)))))))
    (.l (.inr (.inl ())))
noncomputable def L_im_IsGround_0 (k : (List (List (Int))) × ((List (List (Int))) × (Int))) (v : Int) : Option ((Unit) ⊕ (Unit)) := iter (fun v => (S_im_IsGround_0 k v).ev) v
noncomputable def DL_im_IsGround_0 : LD where
  head := { acts := [], S := { slots := [0, 12, 13, 14], sh := (.cons (.dat (.slice (.slice (.int .i64)))) (.cons (.dat (.slice (.slice (.int .i64)))) (.cons (.dat (.int .i64)) (.cons (.dat (.int .i64)) .nil)))), obs := [] } }
  exits := [(0, { acts := [], S := { slots := [0], sh := (.cons (.dat (.slice (.slice (.int .i64)))) .nil), obs := [] } })]
  rets := { acts := [], S := { slots := [2], sh := (.cons (.dat .bool) .nil), obs := [] } }
  K := (List (List (Int))) × ((List (List (Int))) × (Int))
  V := Int
  R := (Unit) ⊕ (Unit)
  join := fun k v => ((k.1, (k.2.1, (k.2.2, (v, ())))), ())
  sk := fun t => (t.1.1, (t.1.2.1, t.1.2.2.1))
  sv := fun t => t.1.2.2.2.1
  step := S_im_IsGround_0
  leaf := fun k r => .s (Unit) (Unit) r (fun _ => .l (.exit 0 (mkSt ({ slots := [0], sh := (.cons (.dat (.slice (.slice (.int .i64)))) .nil), obs := [] }) ((k.1, ()), ())))) (fun _ => .l (.ret (mkSt ({ slots := [2], sh := (.cons (.dat .bool) .nil), obs := [] }) ((false, ()), ()))))
noncomputable def S_im_IsGround_4 (k : (List (List (Int))) × ((Int) × ((List (List (Int))) × ((Int) × ((Int) × ((List (Int)) × (Int))))))) (v : Int) : Tr ((Int) ⊕ ((Unit) ⊕ (Unit))) :=
  .t (decide (v < k.2.2.2.2.2.2))
    (.g (inR v (List.length k.2.2.2.2.2.1)) <|
      .g (inR v (List.length k.1)) <|
      .g (inR k.2.1 (List.length (List.getD k.1 (Int.toNat v) ([] : List (Int))))) <|
      .t ((List.getD k.2.2.2.2.2.1 (Int.toNat v) (0 : Int)) != (List.getD (List.getD k.1 (Int.toNat v) ([] : List (Int))) (Int.toNat k.2.1) (0 : Int)))
        (.l (.inr (.inr ())))
        (.t (k.2.1 == v)
            (.t ((List.getD k.2.2.2.2.2.1 (Int.toNat v) (0 : Int)) != (0 : Int))
                (.l (.inr (.inr ())))
                (.l (.inl (IntKind.wrap .i64 (v + (1 : Int))))))
            (.l (.inl (IntKind.wrap .i64 (v + (1 : Int)))))))
    (.l (.inr (.inl ())))
noncomputable def L_im_IsGround_4 (k : (List (List (Int))) × ((Int) × ((List (List (Int))) × ((Int) × ((Int) × ((List (Int)) × (Int))))))) (v : Int) : Option ((Unit) ⊕ (Unit)) := iter (fun v => (S_im_IsGround_4 k v).ev) v
noncomputable def DL_im_IsGround_4 : LD where
  head := { acts := [], S := { slots := [0, 5, 29, 30, 31, 36, 37, 38], sh := (.cons (.dat (.slice (.slice (.int .i64)))) (.cons (.dat (.int .i64)) (.cons (.dat (.slice (.slice (.int .i64)))) (.cons (.dat (.int .i64)) (.cons (.dat (.int .i64)) (.cons (.dat (.slice (.int .i64))) (.cons (.dat (.int .i64)) (.cons (.dat (.int .i64)) .nil)))))))), obs := [] } }
  exits := [(4, { acts := [], S := { slots := [0, 29, 30, 31], sh := (.cons (.dat (.slice (.slice (.int .i64)))) (.cons (.dat (.slice (.slice (.int .i64)))) (.cons (.dat (.int .i64)) (.cons (.dat (.int .i64)) .nil)))), obs := [] } })]
  rets := { acts := [], S := { slots := [2], sh := (.cons (.dat .bool) .nil), obs := [] } }
  K := (List (List (Int))) × ((Int) × ((List (List (Int))) × ((Int) × ((Int) × ((List (Int)) × (Int))))))
  V := Int
  R := (Unit) ⊕ (Unit)
  join := fun k v => ((k.1, (k.2.1, (k.2.2.1, (k.2.2.2.1, (k.2.2.2.2.1, (k.2.2.2.2.2.1, (k.2.2.2.2.2.2, (v, ())))))))), ())
  sk := fun t => (t.1.1, (t.1.2.1, (t.1.2.2.1, (t.1.2.2.2.1, (t.1.2.2.2.2.1, (t.1.2.2.2.2.2.1, t.1.2.2.2.2.2.2.1))))))
  sv := fun t => t.1.2.2.2.2.2.2.2.1
  step := S_im_IsGround_4
  leaf := fun k r => .s (Unit) (Unit) r (fun _ => .l (.exit 4 (mkSt ({ slots := [0, 29, 30, 31], sh := (.cons (.dat (.slice (.slice (.int .i64)))) (.cons (.dat (.slice (.slice (.int .i64)))) (.cons (.dat (.int .i64)) (.cons (.dat (.int .i64)) .nil)))), obs := [] }) ((k.1, (k.2.2.1, (k.2.2.2.1, (k.2.2.2.2.1, ())))), ())))) (fun _ => .l (.ret (mkSt ({ slots := [2], sh := (.cons (.dat .bool) .nil), obs := [] }) ((false, ()), ()))))
noncomputable def S_im_IsGround_2 (k : (List (List (Int))) × ((List (List (Int))) × (Int))) (v : Int) : Tr ((Int) ⊕ ((Unit) ⊕ (Unit))) :=
  .t (decide (v < k.2.2))
    (.g (inR v (List.length k.2.1)) <|
      .c ((Unit) ⊕ (Unit)) (L_im_IsGround_4 (k.1, (v, (k.2.1, (k.2.2, (v, ((List.getD k.2.1 (Int.toNat v) ([] : List (Int))), ((List.length (List.getD k.2.1 (Int.toNat v) ([] : List (Int))) : Nat) : Int))))))) (0 : Int)) fun r28_ =>
      .s (Unit) (Unit) r28_
        (fun _ => .l (.inl (IntKind.wrap .i64 (v + (1 : Int)))))
        (fun _ => .l (.inr (.inr ()))))
    (.l (.inr (.inl ())))
noncomputable def L_im_IsGround_2 (k : (List (List (Int))) × ((List (List (Int))) × (Int))) (v : Int) : Option ((Unit) ⊕ (Unit)) := iter (fun v => (S_im_IsGround_2 k v).ev) v
noncomputable def DL_im_IsGround_2 : LD where
  head := { acts := [], S := { slots := [0, 29, 30, 31], sh := (.cons (.dat (.slice (.slice (.int .i64)))) (.cons (.dat (.slice (.slice (.int .i64)))) (.cons (.dat (.int .i64)) (.cons (.dat (.int .i64)) .nil)))), obs := [] } }
  exits := [(2, { acts := [], S := { slots := [], sh := .nil, obs := [] } })]
  rets := { acts := [], S := { slots := [2], sh := (.cons (.dat .bool) .nil), obs := [] } }
  K := (List (List (Int))) × ((List (List (Int))) × (Int))
  V := Int
  R := (Unit) ⊕ (Unit)
  join := fun k v => ((k.1, (k.2.1, (k.2.2, (v, ())))), ())
  sk := fun t => (t.1.1, (t.1.2.1, t.1.2.2.1))
  sv := fun t => t.1.2.2.2.1
  step := S_im_IsGround_2
  leaf := fun _ r => .s (Unit) (Unit) r (fun _ => .l (.exit 2 (mkSt ({ slots := [], sh := .nil, obs := [] }) ((), ())))) (fun _ => .l (.ret (mkSt ({ slots := [2], sh := (.cons (.dat .bool) .nil), obs := [] }) ((false, ()), ()))))
noncomputable def T_im_IsGround (a1_ : List (List (Int))) : Tr (Bool) :=
  .t (decide ((7 : Int) < ((List.length a1_ : Nat) : Int)))
    (.l false)
    (.c ((Unit) ⊕ (Unit)) (L_im_IsGround_0 (a1_, (a1_, ((List.length a1_ : Nat) : Int))) (0 : Int)) fun r8_ =>
      .s (Unit) (Unit) r8_
        (fun _ => .c ((Unit) ⊕ (Unit)) (L_im_IsGround_2 (a1_, (a1_, ((List.length a1_ : Nat) : Int))) (0 : Int)) fun r32_ =>
          .s (Unit) (Unit) r32_
            (fun _ => .l true)
            (fun _ => .l false))
        (fun _ => .l false))
noncomputable def F_im_IsGround (a1_ : List (List (Int))) : Option (Bool) := (T_im_IsGround a1_).ev
noncomputable def A_im_IsGround : Sh := (.cons (.dat (.slice (.slice (.int .i64)))) .nil)
noncomputable def I_im_IsGround : List (Nat × OSh) := []
noncomputable def K_im_IsGround : RetK := { acts := [], res := [.tmp 2], sh := (.cons (.dat .bool) .nil), obs := [], pins := [] }
noncomputable def D_im_IsGround : FD where
  A := A_im_IsGround
  ins := I_im_IsGround
  lend := []
  R := Bool
  F := fun x => F_im_IsGround x.1.1
  emb := fun r => ([.dat .bool r], [])
noncomputable def E_im_IsGround : Env := envOf [(133, D_im_areBetween)]
noncomputable def Z_im_IsGround : Nat → Nat → List Nat := fun _ _ => []
noncomputable def O_im_IsGround : List (Nat × LD) := [(0, DL_im_IsGround_0), (4, DL_im_IsGround_4), (2, DL_im_IsGround_2)]
noncomputable def C_im_IsGround : Code := (f66.body).getD .skip
noncomputable def T_im_isNet (a1_ : List (List (Int))) : Tr (Bool) :=
  .c (Bool) (F_im_IsGround a1_) fun r1_ =>
  .t r1_
    (.l (decide (((List.length a1_ : Nat) : Int) ≤ (5 : Int))))
    (.l false)
noncomputable def F_im_isNet (a1_ : List (List (Int))) : Option (Bool) := (T_im_isNet a1_).ev
noncomputable def A_im_isNet : Sh := (.cons (.dat (.slice (.slice (.int .i64)))) .nil)
noncomputable def I_im_isNet : List (Nat × OSh) := []
noncomputable def K_im_isNet : RetK := { acts := [], res := [.tmp 2], sh := (.cons (.dat .bool) .nil), obs := [], pins := [] }
noncomputable def D_im_isNet : FD where
  A := A_im_isNet
  ins := I_im_isNet
  lend := []
  R := Bool
  F := fun x => F_im_isNet x.1.1
  emb := fun r => ([.dat .bool r], [])
noncomputable def E_im_isNet : Env := envOf [(66, D_im_IsGround)]
noncomputable def Z_im_isNet : Nat → Nat → List Nat := fun _ _ => []
noncomputable def O_im_isNet : List (Nat × LD) := []
noncomputable def C_im_isNet : Code := (f86.body).getD .skip
noncomputable def S_slices_IndexFunc_SSint_Sint_0 (k : (List (List (Int))) × (((HL [(.slice (.int .i64))] → Option (Bool))) × (Int))) (v : Int) : Tr ((Int) ⊕ ((Unit) ⊕ (Int))) :=
  .t (decide (v < k.2.2))
    (.g (inR v (List.length k.1)) <|
      .c (Bool) (k.2.1 ((List.getD k.1 (Int.toNat v) ([] : List (Int))), ())) fun r5_ =>
      .t r5_
        (.l (.inr (.inr v)))
        (.l (.inl (IntKind.wrap .i64 (v + (1 : Int))))))
    (.l (.inr (.inl ())))
noncomputable def L_slices_IndexFunc_SSint_Sint_0 (k : (List (List (Int))) × (((HL [(.slice (.int .i64))] → Option (Bool))) × (Int))) (v : Int) : Option ((Unit) ⊕ (Int)) := iter (fun v => (S_slices_IndexFunc_SSint_Sint_0 k v).ev) v
noncomputable def DL_slices_IndexFunc_SSint_Sint_0 : LD where
  head := { acts := [], S := { slots := [0, 1, 7, 8], sh := (.cons (.dat (.slice (.slice (.int .i64)))) (.cons (.clo [(.slice (.int .i64))] .bool) (.cons (.dat (.int .i64)) (.cons (.dat (.int .i64)) .nil)))), obs := [] } }
  exits := [(0, { acts := [], S := { slots := [], sh := .nil, obs := [] } })]
  rets := { acts := [], S := { slots := [4], sh := (.cons (.dat (.int .i64)) .nil), obs := [] } }
  K := (List (List (Int))) × (((HL [(.slice (.int .i64))] → Option (Bool))) × (Int))
  V := Int
  R := (Unit) ⊕ (Int)
  join := fun k v => ((k.1, (k.2.1, (k.2.2, (v, ())))), ())
  sk := fun t => (t.1.1, (t.1.2.1, t.1.2.2.1))
  sv := fun t => t.1.2.2.2.1
  step := S_slices_IndexFunc_SSint_Sint_0
  leaf := fun _ r => .s (Unit) (Int) r (fun _ => .l (.exit 0 (mkSt ({ slots := [], sh := .nil, obs := [] }) ((), ())))) (fun b => .l (.ret (mkSt ({ slots := [4], sh := (.cons (.dat (.int .i64)) .nil), obs := [] }) ((b, ()), ()))))
noncomputable def T_slices_IndexFunc_SSint_Sint (a1_ : List (List (Int))) (a2_ : (HL [(.slice (.int .i64))] → Option (Bool))) : Tr (Int) :=
  .c ((Unit) ⊕ (Int)) (L_slices_IndexFunc_SSint_Sint_0 (a1_, (a2_, ((List.length a1_ : Nat) : Int))) (0 : Int)) fun r7_ =>
  .s (Unit) (Int) r7_
    (fun _ => .l (-1 : Int))
    (fun r9_ => .l r9_)
noncomputable def F_slices_IndexFunc_SSint_Sint (a1_ : List (List (Int))) (a2_ : (HL [(.slice (.int .i64))] → Option (Bool))) : Option (Int) := (T_slices_IndexFunc_SSint_Sint a1_ a2_).ev
noncomputable def A_slices_IndexFunc_SSint_Sint : Sh := (.cons (.dat (.slice (.slice (.int .i64)))) (.cons (.clo [(.slice (.int .i64))] .bool) .nil))
noncomputable def I_slices_IndexFunc_SSint_Sint : List (Nat × OSh) := []
noncomputable def K_slices_IndexFunc_SSint_Sint : RetK := { acts := [], res := [.tmp 4], sh := (.cons (.dat (.int .i64)) .nil), obs := [], pins := [] }
noncomputable def D_slices_IndexFunc_SSint_Sint : FD where
  A := A_slices_IndexFunc_SSint_Sint
  ins := I_slices_IndexFunc_SSint_Sint
  lend := []
  R := Int
  F := fun x => F_slices_IndexFunc_SSint_Sint x.1.1 x.1.2.1
  emb := fun r => ([.dat (.int .i64) r], [])
noncomputable def E_slices_IndexFunc_SSint_Sint : Env := envOf []
noncomputable def Z_slices_IndexFunc_SSint_Sint : Nat → Nat → List Nat := fun _ _ => []
noncomputable def O_slices_IndexFunc_SSint_Sint : List (Nat × LD) := [(0, DL_slices_IndexFunc_SSint_Sint_0)]
noncomputable def C_slices_IndexFunc_SSint_Sint : Code := (f179.body).getD .skip
noncomputable def T_slices_ContainsFunc_SSint_Sint (a1_ : List (List (Int))) (a2_ : (HL [(.slice (.int .i64))] → Option (Bool))) : Tr (Bool) :=
  .c (Int) (F_slices_IndexFunc_SSint_Sint a1_ a2_) fun r1_ =>
  .l (decide ((0 : Int) ≤ r1_))
noncomputable def F_slices_ContainsFunc_SSint_Sint (a1_ : List (List (Int))) (a2_ : (HL [(.slice (.int .i64))] → Option (Bool))) : Option (Bool) := (T_slices_ContainsFunc_SSint_Sint a1_ a2_).ev
noncomputable def A_slices_ContainsFunc_SSint_Sint : Sh := (.cons (.dat (.slice (.slice (.int .i64)))) (.cons (.clo [(.slice (.int .i64))] .bool) .nil))
noncomputable def I_slices_ContainsFunc_SSint_Sint : List (Nat × OSh) := []
noncomputable def K_slices_ContainsFunc_SSint_Sint : RetK := { acts := [], res := [.tmp 4], sh := (.cons (.dat .bool) .nil), obs := [], pins := [] }
noncomputable def D_slices_ContainsFunc_SSint_Sint : FD where
  A := A_slices_ContainsFunc_SSint_Sint
  ins := I_slices_ContainsFunc_SSint_Sint
  lend := []
  R := Bool
  F := fun x => F_slices_ContainsFunc_SSint_Sint x.1.1 x.1.2.1
  emb := fun r => ([.dat .bool r], [])
noncomputable def E_slices_ContainsFunc_SSint_Sint : Env := envOf [(179, D_slices_IndexFunc_SSint_Sint)]
noncomputable def Z_slices_ContainsFunc_SSint_Sint : Nat → Nat → List Nat := fun _ _ => []
noncomputable def O_slices_ContainsFunc_SSint_Sint : List (Nat × LD) := []
noncomputable def C_slices_ContainsFunc_SSint_Sint : Code := (f144.body).getD .skip
noncomputable def T_im_areFlows_1 (a1_ : List (Int)) (a2_ : List (List (Int))) : Tr (Bool) :=
  .t (((List.length a1_ : Nat) : Int) != ((List.length a2_ : Nat) : Int))
    (.l true)
    (.c (Bool) (F_im_areBetween a1_ (0 : Int) (99 : Int)) fun r1_ =>
      .l (!r1_))
noncomputable def F_im_areFlows_1 (a1_ : List (Int)) (a2_ : List (List (Int))) : Option (Bool) := (T_im_areFlows_1 a1_ a2_).ev
noncomputable def A_im_areFlows_1 : Sh := (.cons (.dat (.slice (.int .i64))) (.cons (.ptr (.cons (.dat (.slice (.slice (.int .i64)))) .nil)) .nil))
noncomputable def I_im_areFlows_1 : List (Nat × OSh) := []
noncomputable def K_im_areFlows_1 : RetK := { acts := [], res := [.tmp 3], sh := (.cons (.dat .bool) .nil), obs := [], pins := [] }
noncomputable def D_im_areFlows_1 : FD where
  A := A_im_areFlows_1
  ins := I_im_areFlows_1
  lend := []
  R := Bool
  F := fun x => F_im_areFlows_1 x.1.1 x.1.2.1.1
  emb := fun r => ([.dat .bool r], [])
noncomputable def E_im_areFlows_1 : Env := envOf [(133, D_im_areBetween)]
noncomputable def Z_im_areFlows_1 : Nat → Nat → List Nat := fun _ _ => []
noncomputable def O_im_areFlows_1 : List (Nat × LD) := []
noncomputable def C_im_areFlows_1 : Code := (f145.body).getD .skip
noncomputable def T_im_areFlows (a1_ : List (List (Int))) (a2_ : List (List (Int))) : Tr (Bool) :=
  .t (((List.length a2_ : Nat) : Int) == ((List.length a1_ : Nat) : Int))
    (.c (Bool) (F_slices_ContainsFunc_SSint_Sint a2_ (fun h1_ => Option.bind (F_im_areFlows_1 h1_.1 a1_) fun y2_ => some y2_)) fun r3_ =>
      .l (!r3_))
    (.l false)
noncomputable def F_im_areFlows (a1_ : List (List (Int))) (a2_ : List (List (Int))) : Option (Bool) := (T_im_areFlows a1_ a2_).ev
noncomputable def A_im_areFlows : Sh := (.cons (.dat (.slice (.slice (.int .i64)))) (.cons (.dat (.slice (.slice (.int .i64)))) .nil))
noncomputable def I_im_areFlows : List (Nat × OSh) := []
noncomputable def K_im_areFlows : RetK := { acts := [], res := [.tmp 4], sh := (.cons (.dat .bool) .nil), obs := [], pins := [] }
noncomputable def D_im_areFlows : FD where
  A := A_im_areFlows
  ins := I_im_areFlows
  lend := []
  R := Bool
  F := fun x => F_im_areFlows x.1.1 x.1.2.1
  emb := fun r => ([.dat .bool r], [])
noncomputable def E_im_areFlows : Env := envOf [(144, D_slices_ContainsFunc_SSint_Sint), (144, D_slices_ContainsFunc_SSint_Sint), (145, D_im_areFlows_1)]
noncomputable def Z_im_areFlows : Nat → Nat → List Nat := fun _ _ => []
noncomputable def O_im_areFlows : List (Nat × LD) := []
noncomputable def C_im_areFlows : Code := (f87.body).getD .skip
noncomputable def T_im_isAllocation_1 (a1_ : Int) (a2_ : List (Int)) : Tr (Bool) :=
  .g (inR a1_ (List.length a2_)) <|
  .l ((List.getD a2_ (Int.toNat a1_) (0 : Int)) != a1_)
noncomputable def F_im_isAllocation_1 (a1_ : Int) (a2_ : List (Int)) : Option (Bool) := (T_im_isAllocation_1 a1_ a2_).ev
noncomputable def A_im_isAllocation_1 : Sh := (.cons (.dat (.int .i64)) (.cons (.ptr (.cons (.dat (.slice (.int .i64))) .nil)) .nil))
noncomputable def I_im_isAllocation_1 : List (Nat × OSh) := []
noncomputable def K_im_isAllocation_1 : RetK := { acts := [], res := [.tmp 3], sh := (.cons (.dat .bool) .nil), obs := [], pins := [] }
noncomputable def D_im_isAllocation_1 : FD where
  A := A_im_isAllocation_1
  ins := I_im_isAllocation_1
  lend := []
  R := Bool
  F := fun x => F_im_isAllocation_1 x.1.1 x.1.2.1.1
  emb := fun r => ([.dat .bool r], [])
noncomputable def E_im_isAllocation_1 : Env := envOf []
noncomputable def Z_im_isAllocation_1 : Nat → Nat → List Nat := fun _ _ => []
noncomputable def O_im_isAllocation_1 : List (Nat × LD) := []
noncomputable def C_im_isAllocation_1 : Code := (f146.body).getD .skip
noncomputable def T_im_isAllocation (a1_ : Int) (a2_ : List (Int)) : Tr (Bool) :=
  .t (((List.length a2_ : Nat) : Int) == a1_)
    (.c (Bool) (F_im_areBetween a2_ (0 : Int) (IntKind.wrap .i64 (a1_ - (1 : Int)))) fun r1_ =>
      .t r1_
        (.c (Bool) (F_slices_ContainsFunc_Sint_int a2_ (fun h2_ => Option.bind (F_im_isAllocation_1 h2_.1 a2_) fun y3_ => some y3_)) fun r4_ =>
          .l (!r4_))
        (.l false))
    (.l false)
noncomputable def F_im_isAllocation (a1_ : Int) (a2_ : List (Int)) : Option (Bool) := (T_im_isAllocation a1_ a2_).ev
noncomputable def A_im_isAllocation : Sh := (.cons (.dat (.int .i64)) (.cons (.dat (.slice (.int .i64))) .nil))
noncomputable def I_im_isAllocation : List (Nat × OSh) := []
noncomputable def K_im_isAllocation : RetK := { acts := [], res := [.tmp 4], sh := (.cons (.dat .bool) .nil), obs := [], pins := [] }
noncomputable def D_im_isAllocation : FD where
  A := A_im_isAllocation
  ins := I_im_isAllocation
  lend := []
  R := Bool
  F := fun x => F_im_isAllocation x.1.1 x.1.2.1
  emb := fun r => ([.dat .bool r], [])
noncomputable def E_im_isAllocation : Env := envOf [(133, D_im_areBetween), (99, D_slices_ContainsFunc_Sint_int), (99, D_slices_ContainsFunc_Sint_int), (146, D_im_isAllocation_1)]
noncomputable def Z_im_isAllocation : Nat → Nat → List Nat := fun _ _ => []
noncomputable def O_im_isAllocation : List (Nat × LD) := []
noncomputable def C_im_isAllocation : Code := (f89.body).getD .skip
noncomputable def S_im_hubCost_2 (k : (List (List (Int))) × ((List (Int)) × ((Int) × ((Int) × ((List (List (Int))) × ((Int) × ((Int) × ((List (Int)) × (Int))))))))) (v : (Int) × (Int)) : Tr (((Int) × (Int)) ⊕ (Int)) :=
  .t (decide (v.2 < k.2.2.2.2.2.2.2.2))
    (.g (inR v.2 (List.length k.2.2.2.2.2.2.2.1)) <|
      .t (k.2.2.2.1 != v.2)
        (.g (inR k.2.2.2.1 (List.length k.1)) <|
          .g (inR k.2.2.2.1 (List.length k.2.1)) <|
          .g (inR (List.getD k.2.1 (Int.toNat k.2.2.2.1) (0 : Int)) (List.length (List.getD k.1 (Int.toNat k.2.2.2.1) ([] : List (Int))))) <|
          .g (inR v.2 (List.length k.1)) <|
          .g (inR v.2 (List.length k.2.1)) <|
          .g (inR (List.getD k.2.1 (Int.toNat v.2) (0 : Int)) (List.length (List.getD k.1 (Int.toNat v.2) ([] : List (Int))))) <|
          .g (inR k.2.2.2.1 (List.length k.2.1)) <|
          .g (inR (List.getD k.2.1 (Int.toNat k.2.2.2.1) (0 : Int)) (List.length k.1)) <|
          .g (inR v.2 (List.length k.2.1)) <|
          .g (inR (List.getD k.2.1 (Int.toNat v.2) (0 : Int)) (List.length (List.getD k.1 (Int.toNat (List.getD k.2.1 (Int.toNat k.2.2.2.1) (0 : Int))) ([] : List (Int))))) <|
          .l (.inl ((IntKind.wrap .i64 (v.1 + (IntKind.wrap .i64 ((List.getD k.2.2.2.2.2.2.2.1 (Int.toNat v.2) (0 : Int)) * (IntKind.wrap .i64 ((IntKind.wrap .i64 ((10 : Int) * (IntKind.wrap .i64 ((List.getD (List.getD k.1 (Int.toNat k.2.2.2.1) ([] : List (Int))) (Int.toNat (List.getD k.2.1 (Int.toNat k.2.2.2.1) (0 : Int))) (0 : Int)) + (List.getD (List.getD k.1 (Int.toNat v.2) ([] : List (Int))) (Int.toNat (List.getD k.2.1 (Int.toNat v.2) (0 : Int))) (0 : Int)))))) + (IntKind.wrap .i64 (k.2.2.1 * (List.getD (List.getD k.1 (Int.toNat (List.getD k.2.1 (Int.toNat k.2.2.2.1) (0 : Int))) ([] : List (Int))) (Int.toNat (List.getD k.2.1 (Int.toNat v.2) (0 : Int))) (0 : Int)))))))))), (IntKind.wrap .i64 (v.2 + (1 : Int))))))
        (.l (.inl (v.1, (IntKind.wrap .i64 (v.2 + (1 : Int)))))))
    (.l (.inr v.1))
noncomputable def L_im_hubCost_2 (k : (List (List (Int))) × ((List (Int)) × ((Int) × ((Int) × ((List (List (Int))) × ((Int) × ((Int) × ((List (Int)) × (Int))))))))) (v : (Int) × (Int)) : Option (Int) := iter (fun v => (S_im_hubCost_2 k v).ev) v
noncomputable def DL_im_hubCost_2 : LD where
  head := { acts := [], S := { slots := [0, 2, 3, 9, 10, 14, 15, 16, 21, 22, 23], sh := (.cons (.dat (.slice (.slice (.int .i64)))) (.cons (.dat (.slice (.int .i64))) (.cons (.dat (.int .i64)) (.cons (.dat (.int .i64)) (.cons (.dat (.int .i64)) (.cons (.dat (.slice (.slice (.int .i64)))) (.cons (.dat (.int .i64)) (.cons (.dat (.int .i64)) (.cons (.dat (.slice (.int .i64))) (.cons (.dat (.int .i64)) (.cons (.dat (.int .i64)) .nil))))))))))), obs := [] } }
  exits := [(2, { acts := [], S := { slots := [0, 2, 3, 9, 14, 15, 16], sh := (.cons (.dat (.slice (.slice (.int .i64)))) (.cons (.dat (.slice (.int .i64))) (.cons (.dat (.int .i64)) (.cons (.dat (.int .i64)) (.cons (.dat (.slice (.slice (.int .i64)))) (.cons (.dat (.int .i64)) (.cons (.dat (.int .i64)) .nil))))))), obs := [] } })]
  rets := { acts := [], S := { slots := [], sh := .nil, obs := [] } }
  K := (List (List (Int))) × ((List (Int)) × ((Int) × ((Int) × ((List (List (Int))) × ((Int) × ((Int) × ((List (Int)) × (Int))))))))
  V := (Int) × (Int)
  R := Int
  join := fun k v => ((k.1, (k.2.1, (k.2.2.1, (v.1, (k.2.2.2.1, (k.2.2.2.2.1, (k.2.2.2.2.2.1, (k.2.2.2.2.2.2.1, (k.2.2.2.2.2.2.2.1, (k.2.2.2.2.2.2.2.2, (v.2, ()))))))))))), ())
  sk := fun t => (t.1.1, (t.1.2.1, (t.1.2.2.1, (t.1.2.2.2.2.1, (t.1.2.2.2.2.2.1, (t.1.2.2.2.2.2.2.1, (t.1.2.2.2.2.2.2.2.1, (t.1.2.2.2.2.2.2.2.2.1, t.1.2.2.2.2.2.2.2.2.2.1))))))))
  sv := fun t => (t.1.2.2.2.1, t.1.2.2.2.2.2.2.2.2.2.2.1)
  step := S_im_hubCost_2
  leaf := fun k r => .l (.exit 2 (mkSt ({ slots := [0, 2, 3, 9, 14, 15, 16], sh := (.cons (.dat (.slice (.slice (.int .i64)))) (.cons (.dat (.slice (.int .i64))) (.cons (.dat (.int .i64)) (.cons (.dat (.int .i64)) (.cons (.dat (.slice (.slice (.int .i64)))) (.cons (.dat (.int .i64)) (.cons (.dat (.int .i64)) .nil))))))), obs := [] }) ((k.1, (k.2.1, (k.2.2.1, (r, (k.2.2.2.2.1, (k.2.2.2.2.2.1, (k.2.2.2.2.2.2.1, ()))))))), ())))
noncomputable def S_im_hubCost_0 (k : (List (List (Int))) × ((List (Int)) × ((Int) × ((List (List (Int))) × (Int))))) (v : (Int) × (Int)) : Tr (((Int) × (Int)) ⊕ (Int)) :=
  .t (decide (v.2 < k.2.2.2.2))
    (.g (inR v.2 (List.length k.2.2.2.1)) <|
      .c (Int) (L_im_hubCost_2 (k.1, (k.2.1, (k.2.2.1, (v.2, (k.2.2.2.1, (k.2.2.2.2, (v.2, ((List.getD k.2.2.2.1 (Int.toNat v.2) ([] : List (Int))), ((List.length (List.getD k.2.2.2.1 (Int.toNat v.2) ([] : List (Int))) : Nat) : Int))))))))) (v.1, (0 : Int))) fun r26_ =>
      .l (.inl (r26_, (IntKind.wrap .i64 (v.2 + (1 : Int))))))
    (.l (.inr v.1))
noncomputable def L_im_hubCost_0 (k : (List (List (Int))) × ((List (Int)) × ((Int) × ((List (List (Int))) × (Int))))) (v : (Int) × (Int)) : Option (Int) := iter (fun v => (S_im_hubCost_0 k v).ev) v
noncomputable def DL_im_hubCost_0 : LD where
  head := { acts := [], S := { slots := [0, 2, 3, 9, 14, 15, 16], sh := (.cons (.dat (.slice (.slice (.int .i64)))) (.cons (.dat (.slice (.int .i64))) (.cons (.dat (.int .i64)) (.cons (.dat (.int .i64)) (.cons (.dat (.slice (.slice (.int .i64)))) (.cons (.dat (.int .i64)) (.cons (.dat (.int .i64)) .nil))))))), obs := [] } }
  exits := [(0, { acts := [], S := { slots := [9], sh := (.cons (.dat (.int .i64)) .nil), obs := [] } })]
  rets := { acts := [], S := { slots := [], sh := .nil, obs := [] } }
  K := (List (List (Int))) × ((List (Int)) × ((Int) × ((List (List (Int))) × (Int))))
  V := (Int) × (Int)
  R := Int
  join := fun k v => ((k.1, (k.2.1, (k.2.2.1, (v.1, (k.2.2.2.1, (k.2.2.2.2, (v.2, ()))))))), ())
  sk := fun t => (t.1.1, (t.1.2.1, (t.1.2.2.1, (t.1.2.2.2.2.1, t.1.2.2.2.2.2.1))))
  sv := fun t => (t.1.2.2.2.1, t.1.2.2.2.2.2.2.1)
  step := S_im_hubCost_0
  leaf := fun _ r => .l (.exit 0 (mkSt ({ slots := [9], sh := (.cons (.dat (.int .i64)) .nil), obs := [] }) ((r, ()), ())))
noncomputable def T_im_hubCost (a1_ : List (List (Int))) (a2_ : List (List (Int))) (a3_ : List (Int)) (a4_ : Int) : Tr (Int) :=
  .c (Int) (L_im_hubCost_0 (a1_, (a3_, (a4_, (a2_, ((List.length a2_ : Nat) : Int))))) ((0 : Int), (0 : Int))) fun r28_ =>
  .l r28_
noncomputable def F_im_hubCost (a1_ : List (List (Int))) (a2_ : List (List (Int))) (a3_ : List (Int)) (a4_ : Int) : Option (Int) := (T_im_hubCost a1_ a2_ a3_ a4_).ev
noncomputable def A_im_hubCost : Sh := (.cons (.dat (.slice (.slice (.int .i64)))) (.cons (.dat (.slice (.slice (.int .i64)))) (.cons (.dat (.slice (.int .i64))) (.cons (.dat (.int .i64)) .nil))))
noncomputable def I_im_hubCost : List (Nat × OSh) := []
noncomputable def K_im_hubCost : RetK := { acts := [], res := [.tmp 8], sh := (.cons (.dat (.int .i64)) .nil), obs := [], pins := [] }
noncomputable def D_im_hubCost : FD where
  A := A_im_hubCost
  ins := I_im_hubCost
  lend := []
  R := Int
  F := fun x => F_im_hubCost x.1.1 x.1.2.1 x.1.2.2.1 x.1.2.2.2.1
  emb := fun r => ([.dat (.int .i64) r], [])
noncomputable def E_im_hubCost : Env := envOf []
noncomputable def Z_im_hubCost : Nat → Nat → List Nat := fun _ _ => []
noncomputable def O_im_hubCost : List (Nat × LD) := [(2, DL_im_hubCost_2), (0, DL_im_hubCost_0)]
noncomputable def C_im_hubCost : Code := (f94.body).getD .skip
noncomputable def T_im_HubCost (a1_ : List (List (Int))) (a2_ : List (List (Int))) (a3_ : List (Int)) (a4_ : Int) : Tr ((Int) × (Bool)) :=
  .c (Bool) (F_im_isNet a1_) fun r1_ =>
  .t (!r1_)
    (.l ((0 : Int), false))
    (.c (Bool) (F_im_areFlows a1_ a2_) fun r2_ =>
      .t (!r2_)
        (.l ((0 : Int), false))
        (.c (Bool) (F_im_isAllocation ((List.length a1_ : Nat) : Int) a3_) fun r3_ =>
          .t (!r3_)
            (.l ((0 : Int), false))
            (.c (Bool) (F_im_between a4_ (0 : Int) (10 : Int)) fun r4_ =>
              .t (!r4_)
                (.l ((0 : Int), false))
                (.c (Int) (F_im_hubCost a1_ a2_ a3_ a4_) fun r5_ =>
                  .l (r5_, true)))))
noncomputable def F_im_HubCost (a1_ : List (List (Int))) (a2_ : List (List (Int))) (a3_ : List (Int)) (a4_ : Int) : Option ((Int) × (Bool)) := (T_im_HubCost a1_ a2_ a3_ a4_).ev
noncomputable def A_im_HubCost : Sh := (.cons (.dat (.slice (.slice (.int .i64)))) (.cons (.dat (.slice (.slice (.int .i64)))) (.cons (.dat (.slice (.int .i64))) (.cons (.dat (.int .i64)) .nil))))
noncomputable def I_im_HubCost : List (Nat × OSh) := []
noncomputable def K_im_HubCost : RetK := { acts := [], res := [.tmp 8, .tmp 9], sh := (.cons (.dat (.int .i64)) (.cons (.dat .bool) .nil)), obs := [], pins := [] }
noncomputable def D_im_HubCost : FD where
  A := A_im_HubCost
  ins := I_im_HubCost
  lend := []
  R := (Int) × (Bool)
  F := fun x => F_im_HubCost x.1.1 x.1.2.1 x.1.2.2.1 x.1.2.2.2.1
  emb := fun r => ([.dat (.int .i64) r.1, .dat .bool r.2], [])
noncomputable def E_im_HubCost : Env := envOf [(86, D_im_isNet), (87, D_im_areFlows), (89, D_im_isAllocation), (67, D_im_between), (94, D_im_hubCost)]
noncomputable def Z_im_HubCost : Nat → Nat → List Nat := fun _ _ => []
noncomputable def O_im_HubCost : List (Nat × LD) := []
noncomputable def C_im_HubCost : Code := (f53.body).getD .skip
noncomputable def T_sp_l1In (a1_ : Int) (a2_ : Int) (a3_ : Int) : Tr (Bool) :=
  .t (decide (a2_ ≤ a1_))
    (.l (decide (a1_ ≤ a3_)))
    (.l false)
noncomputable def F_sp_l1In (a1_ : Int) (a2_ : Int) (a3_ : Int) : Option (Bool) := (T_sp_l1In a1_ a2_ a3_).ev
noncomputable def A_sp_l1In : Sh := (.cons (.dat (.int .i64)) (.cons (.dat (.int .i64)) (.cons (.dat (.int .i64)) .nil)))
noncomputable def I_sp_l1In : List (Nat × OSh) := []
noncomputable def K_sp_l1In : RetK := { acts := [], res := [.tmp 6], sh := (.cons (.dat .bool) .nil), obs := [], pins := [] }
noncomputable def D_sp_l1In : FD where
  A := A_sp_l1In
  ins := I_sp_l1In
  lend := []
  R := Bool
  F := fun x => F_sp_l1In x.1.1 x.1.2.1 x.1.2.2.1
  emb := fun r => ([.dat .bool r], [])
noncomputable def E_sp_l1In : Env := envOf []
noncomputable def Z_sp_l1In : Nat → Nat → List Nat := fun _ _ => []
noncomputable def O_sp_l1In : List (Nat × LD) := []
noncomputable def C_sp_l1In : Code := (f84.body).getD .skip
noncomputable def S_sp_l2Row_0 (k : (List (Int)) × ((Int) × (Int))) (v : Int) : Tr ((Int) ⊕ ((Unit) ⊕ (Unit))) :=
  .t (decide (v < ((List.length k.1 : Nat) : Int)))
    (.g (inR v (List.length k.1)) <|
      .c (Bool) (F_sp_l1In (List.getD k.1 (Int.toNat v) (0 : Int)) (0 : Int) k.2.2) fun r5_ =>
      .t (!r5_)
        (.l (.inr (.inr ())))
        (.l (.inl (IntKind.wrap .i64 (v + (1 : Int))))))
    (.l (.inr (.inl ())))
noncomputable def L_sp_l2Row_0 (k : (List (Int)) × ((Int) × (Int))) (v : Int) : Option ((Unit) ⊕ (Unit)) := iter (fun v => (S_sp_l2Row_0 k v).ev) v
noncomputable def DL_sp_l2Row_0 : LD where
  head := { acts := [], S := { slots := [0, 1, 2, 7], sh := (.cons (.dat (.slice (.int .i64))) (.cons (.dat (.int .i64)) (.cons (.dat (.int .i64)) (.cons (.dat (.int .i64)) .nil)))), obs := [] } }
  exits := [(0, { acts := [], S := { slots := [0, 1], sh := (.cons (.dat (.slice (.int .i64))) (.cons (.dat (.int .i64)) .nil)), obs := [] } })]
  rets := { acts := [], S := { slots := [6], sh := (.cons (.dat .bool) .nil), obs := [] } }
  K := (List (Int)) × ((Int) × (Int))
  V := Int
  R := (Unit) ⊕ (Unit)
  join := fun k v => ((k.1, (k.2.1, (k.2.2, (v, ())))), ())
  sk := fun t => (t.1.1, (t.1.2.1, t.1.2.2.1))
  sv := fun t => t.1.2.2.2.1
  step := S_sp_l2Row_0
  leaf := fun k r => .s (Unit) (Unit) r (fun _ => .l (.exit 0 (mkSt ({ slots := [0, 1], sh := (.cons (.dat (.slice (.int .i64))) (.cons (.dat (.int .i64)) .nil)), obs := [] }) ((k.1, (k.2.1, ())), ())))) (fun _ => .l (.ret (mkSt ({ slots := [6], sh := (.cons (.dat .bool) .nil), obs := [] }) ((false, ()), ()))))
noncomputable def T_sp_l2Row (a1_ : List (Int)) (a2_ : Int) (a3_ : Int) : Tr (Bool) :=
  .c ((Unit) ⊕ (Unit)) (L_sp_l2Row_0 (a1_, (a2_, a3_)) (0 : Int)) fun r9_ =>
  .s (Unit) (Unit) r9_
    (fun _ => .l (((List.length a1_ : Nat) : Int) == a2_))
    (fun _ => .l false)
noncomputable def F_sp_l2Row (a1_ : List (Int)) (a2_ : Int) (a3_ : Int) : Option (Bool) := (T_sp_l2Row a1_ a2_ a3_).ev
noncomputable def A_sp_l2Row : Sh := (.cons (.dat (.slice (.int .i64))) (.cons (.dat (.int .i64)) (.cons (.dat (.int .i64)) .nil)))
noncomputable def I_sp_l2Row : List (Nat × OSh) := []
noncomputable def K_sp_l2Row : RetK := { acts := [], res := [.tmp 6], sh := (.cons (.dat .bool) .nil), obs := [], pins := [] }
noncomputable def D_sp_l2Row : FD where
  A := A_sp_l2Row
  ins := I_sp_l2Row
  lend := []
  R := Bool
  F := fun x => F_sp_l2Row x.1.1 x.1.2.1 x.1.2.2.1
  emb := fun r => ([.dat .bool r], [])
noncomputable def E_sp_l2Row : Env := envOf [(84, D_sp_l1In)]
noncomputable def Z_sp_l2Row : Nat → Nat → List Nat := fun _ _ => []
noncomputable def O_sp_l2Row : List (Nat × LD) := [(0, DL_sp_l2Row_0)]
noncomputable def C_sp_l2Row : Code := (f77.body).getD .skip
noncomputable def S_sp_l11Ground_2 (k : (List (List (Int))) × ((Int) × (Int))) (v : Int) : Tr ((Int) ⊕ ((Unit) ⊕ (Unit))) :=
  .t (decide (v < k.2.2))
    (.g (inR k.2.2 (List.length k.1)) <|
      .g (inR v (List.length (List.getD k.1 (Int.toNat k.2.2) ([] : List (Int))))) <|
      .g (inR v (List.length k.1)) <|
      .g (inR k.2.2 (List.length (List.getD k.1 (Int.toNat v) ([] : List (Int))))) <|
      .t ((List.getD (List.getD k.1 (Int.toNat k.2.2) ([] : List (Int))) (Int.toNat v) (0 : Int)) != (List.getD (List.getD k.1 (Int.toNat v) ([] : List (Int))) (Int.toNat k.2.2) (0 : Int)))
        (.l (.inr (.inr ())))
        (.l (.inl (IntKind.wrap .i64 (v + (1 : Int))))))
    (.l (.inr (.inl ())))
noncomputable def L_sp_l11Ground_2 (k : (List (List (Int))) × ((Int) × (Int))) (v : Int) : Option ((Unit) ⊕ (Unit)) := iter (fun v => (S_sp_l11Ground_2 k v).ev) v
noncomputable def DL_sp_l11Ground_2 : LD where
  head := { acts := [], S := { slots := [0, 3, 4, 5], sh := (.cons (.dat (.slice (.slice (.int .i64)))) (.cons (.dat (.int .i64)) (.cons (.dat (.int .i64)) (.cons (.dat (.int .i64)) .nil)))), obs := [] } }
  exits := [(2, { acts := [], S := { slots := [0, 3, 4], sh := (.cons (.dat (.slice (.slice (.int .i64)))) (.cons (.dat (.int .i64)) (.cons (.dat (.int .i64)) .nil))), obs := [] } })]
  rets := { acts := [], S := { slots := [2], sh := (.cons (.dat .bool) .nil), obs := [] } }
  K := (List (List (Int))) × ((Int) × (Int))
  V := Int
  R := (Unit) ⊕ (Unit)
  join := fun k v => ((k.1, (k.2.1, (k.2.2, (v, ())))), ())
  sk := fun t => (t.1.1, (t.1.2.1, t.1.2.2.1))
  sv := fun t => t.1.2.2.2.1
  step := S_sp_l11Ground_2
  leaf := fun k r => .s (Unit) (Unit) r (fun _ => .l (.exit 2 (mkSt ({ slots := [0, 3, 4], sh := (.cons (.dat (.slice (.slice (.int .i64)))) (.cons (.dat (.int .i64)) (.cons (.dat (.int .i64)) .nil))), obs := [] }) ((k.1, (k.2.1, (k.2.2, ()))), ())))) (fun _ => .l (.ret (mkSt ({ slots := [2], sh := (.cons (.dat .bool) .nil), obs := [] }) ((false, ()), ()))))
noncomputable def S_sp_l11Ground_0 (k : (List (List (Int))) × (Int)) (v : Int) : Tr ((Int) ⊕ ((Unit) ⊕ (Unit))) :=
  .t (decide (v < k.2))
    (.g (inR v (List.length k.1)) <|
      .c (Bool) (F_sp_l2Row (List.getD k.1 (Int.toNat v) ([] : List (Int))) k.2 (99 : Int)) fun r4_ =>
      .t (!r4_)
        (.l (.inr (.inr ())))
        (.g (inR v (List.length k.1)) <|
          .g (inR v (List.length (List.getD k.1 (Int.toNat v) ([] : List (Int))))) <|
          .t ((List.getD (List.getD k.1 (Int.toNat v) ([] : List (Int))) (Int.toNat v) (0 : Int)) != (0 : Int))
            (.l (.inr (.inr ())))
            (.c ((Unit) ⊕ (Unit)) (L_sp_l11Ground_2 (k.1, (k.2, v)) (0 : Int)) fun r13_ =>
              .s (Unit) (Unit) r13_
                (fun _ => .l (.inl (IntKind.wrap .i64 (v + (1 : Int)))))
                (fun _ => .l (.inr (.inr ()))))))
    (.l (.inr (.inl ())))
noncomputable def L_sp_l11Ground_0 (k : (List (List (Int))) × (Int)) (v : Int) : Option ((Unit) ⊕ (Unit)) := iter (fun v => (S_sp_l11Ground_0 k v).ev) v
noncomputable def DL_sp_l11Ground_0 : LD where
  head := { acts := [], S := { slots := [0, 3, 4], sh := (.cons (.dat (.slice (.slice (.int .i64)))) (.cons (.dat (.int .i64)) (.cons (.dat (.int .i64)) .nil))), obs := [] } }
  exits := [(0, { acts := [], S := { slots := [3], sh := (.cons (.dat (.int .i64)) .nil), obs := [] } })]
  rets := { acts := [], S := { slots := [2], sh := (.cons (.dat .bool) .nil), obs := [] } }
  K := (List (List (Int))) × (Int)
  V := Int
  R := (Unit) ⊕ (Unit)
  join := fun k v => ((k.1, (k.2, (v, ()))), ())
  sk := fun t => (t.1.1, t.1.2.1)
  sv := fun t => t.1.2.2.1
  step := S_sp_l11Ground_0
  leaf := fun k r => .s (Unit) (Unit) r (fun _ => .l (.exit 0 (mkSt ({ slots := [3], sh := (.cons (.dat (.int .i64)) .nil), obs := [] }) ((k.2, ()), ())))) (fun _ => .l (.ret (mkSt ({ slots := [2], sh := (.cons (.dat .bool) .nil), obs := [] }) ((false, ()), ()))))
noncomputable def T_sp_l11Ground (a1_ : List (List (Int))) : Tr (Bool) :=
  .c ((Unit) ⊕ (Unit)) (L_sp_l11Ground_0 (a1_, ((List.length a1_ : Nat) : Int)) (0 : Int)) fun r18_ =>
  .s (Unit) (Unit) r18_
    (fun _ => .l (decide (((List.length a1_ : Nat) : Int) ≤ (7 : Int))))
    (fun _ => .l false)
noncomputable def F_sp_l11Ground (a1_ : List (List (Int))) : Option (Bool) := (T_sp_l11Ground a1_).ev
noncomputable def A_sp_l11Ground : Sh := (.cons (.dat (.slice (.slice (.int .i64)))) .nil)
noncomputable def I_sp_l11Ground : List (Nat × OSh) := []
noncomputable def K_sp_l11Ground : RetK := { acts := [], res := [.tmp 2], sh := (.cons (.dat .bool) .nil), obs := [], pins := [] }
noncomputable def D_sp_l11Ground : FD where
  A := A_sp_l11Ground
  ins := I_sp_l11Ground
  lend := []
  R := Bool
  F := fun x => F_sp_l11Ground x.1.1
  emb := fun r => ([.dat .bool r], [])
noncomputable def E_sp_l11Ground : Env := envOf [(77, D_sp_l2Row)]
noncomputable def Z_sp_l11Ground : Nat → Nat → List Nat := fun _ _ => []
noncomputable def O_sp_l11Ground : List (Nat × LD) := [(2, DL_sp_l11Ground_2), (0, DL_sp_l11Ground_0)]
noncomputable def C_sp_l11Ground : Code := (f95.body).getD .skip
noncomputable def T_sp_l11Small (a1_ : List (List (Int))) : Tr (Bool) :=
  .c (Bool) (F_sp_l11Ground a1_) fun r1_ =>
  .t r1_
    (.l (decide (((List.length a1_ : Nat) : Int) ≤ (5 : Int))))
    (.l false)
noncomputable def F_sp_l11Small (a1_ : List (List (Int))) : Option (Bool) := (T_sp_l11Small a1_).ev
noncomputable def A_sp_l11Small : Sh := (.cons (.dat (.slice (.slice (.int .i64)))) .nil)
noncomputable def I_sp_l11Small : List (Nat × OSh) := []
noncomputable def K_sp_l11Small : RetK := { acts := [], res := [.tmp 2], sh := (.cons (.dat .bool) .nil), obs := [], pins := [] }
noncomputable def D_sp_l11Small : FD where
  A := A_sp_l11Small
  ins := I_sp_l11Small
  lend := []
  R := Bool
  F := fun x => F_sp_l11Small x.1.1
  emb := fun r => ([.dat .bool r], [])
noncomputable def E_sp_l11Small : Env := envOf [(95, D_sp_l11Ground)]
noncomputable def Z_sp_l11Small : Nat → Nat → List Nat := fun _ _ => []
noncomputable def O_sp_l11Small : List (Nat × LD) := []
noncomputable def C_sp_l11Small : Code := (f127.body).getD .skip
noncomputable def S_sp_l11Flows_0 (k : (List (List (Int))) × ((List (List (Int))) × (Int))) (v : Int) : Tr ((Int) ⊕ ((Unit) ⊕ (Unit))) :=
  .t (decide (v < ((List.length k.2.1 : Nat) : Int)))
    (.g (inR v (List.length k.2.1)) <|
      .c (Bool) (F_sp_l2Row (List.getD k.2.1 (Int.toNat v) ([] : List (Int))) ((List.length k.1 : Nat) : Int) (99 : Int)) fun r5_ =>
      .t (!r5_)
        (.l (.inr (.inr ())))
        (.l (.inl (IntKind.wrap .i64 (v + (1 : Int))))))
    (.l (.inr (.inl ())))
noncomputable def L_sp_l11Flows_0 (k : (List (List (Int))) × ((List (List (Int))) × (Int))) (v : Int) : Option ((Unit) ⊕ (Unit)) := iter (fun v => (S_sp_l11Flows_0 k v).ev) v
noncomputable def DL_sp_l11Flows_0 : LD where
  head := { acts := [], S := { slots := [0, 1, 2, 7], sh := (.cons (.dat (.slice (.slice (.int .i64)))) (.cons (.dat (.slice (.slice (.int .i64)))) (.cons (.dat (.int .i64)) (.cons (.dat (.int .i64)) .nil)))), obs := [] } }
  exits := [(0, { acts := [], S := { slots := [0, 1, 2], sh := (.cons (.dat (.slice (.slice (.int .i64)))) (.cons (.dat (.slice (.slice (.int .i64)))) (.cons (.dat (.int .i64)) .nil))), obs := [] } })]
  rets := { acts := [], S := { slots := [6], sh := (.cons (.dat .bool) .nil), obs := [] } }
  K := (List (List (Int))) × ((List (List (Int))) × (Int))
  V := Int
  R := (Unit) ⊕ (Unit)
  join := fun k v => ((k.1, (k.2.1, (k.2.2, (v, ())))), ())
  sk := fun t => (t.1.1, (t.1.2.1, t.1.2.2.1))
  sv := fun t => t.1.2.2.2.1
  step := S_sp_l11Flows_0
  leaf := fun k r => .s (Unit) (Unit) r (fun _ => .l (.exit 0 (mkSt ({ slots := [0, 1, 2], sh := (.cons (.dat (.slice (.slice (.int .i64)))) (.cons (.dat (.slice (.slice (.int .i64)))) (.cons (.dat (.int .i64)) .nil))), obs := [] }) ((k.1, (k.2.1, (k.2.2, ()))), ())))) (fun _ => .l (.ret (mkSt ({ slots := [6], sh := (.cons (.dat .bool) .nil), obs := [] }) ((false, ()), ()))))
noncomputable def T_sp_l11Flows (a1_ : List (List (Int))) (a2_ : List (List (Int))) (a3_ : Int) : Tr (Bool) :=
  .c ((Unit) ⊕ (Unit)) (L_sp_l11Flows_0 (a1_, (a2_, a3_)) (0 : Int)) fun r10_ =>
  .s (Unit) (Unit) r10_
    (fun _ => .c (Bool) (F_sp_l11Small a1_) fun r13_ =>
      .t r13_
        (.t (((List.length a2_ : Nat) : Int) == ((List.length a1_ : Nat) : Int))
            (.c (Bool) (F_sp_l1In a3_ (0 : Int) (10 : Int)) fun r14_ =>
              .l r14_)
            (.l false))
        (.l false))
    (fun _ => .l false)
noncomputable def F_sp_l11Flows (a1_ : List (List (Int))) (a2_ : List (List (Int))) (a3_ : Int) : Option (Bool) := (T_sp_l11Flows a1_ a2_ a3_).ev
noncomputable def A_sp_l11Flows : Sh := (.cons (.dat (.slice (.slice (.int .i64)))) (.cons (.dat (.slice (.slice (.int .i64)))) (.cons (.dat (.int .i64)) .nil)))
noncomputable def I_sp_l11Flows : List (Nat × OSh) := []
noncomputable def K_sp_l11Flows : RetK := { acts := [], res := [.tmp 6], sh := (.cons (.dat .bool) .nil), obs := [], pins := [] }
noncomputable def D_sp_l11Flows : FD where
  A := A_sp_l11Flows
  ins := I_sp_l11Flows
  lend := []
  R := Bool
  F := fun x => F_sp_l11Flows x.1.1 x.1.2.1 x.1.2.2.1
  emb := fun r => ([.dat .bool r], [])
noncomputable def E_sp_l11Flows : Env := envOf [(77, D_sp_l2Row), (127, D_sp_l11Small), (84, D_sp_l1In)]
noncomputable def Z_sp_l11Flows : Nat → Nat → List Nat := fun _ _ => []
noncomputable def O_sp_l11Flows : List (Nat × LD) := [(0, DL_sp_l11Flows_0)]
noncomputable def C_sp_l11Flows : Code := (f83.body).getD .skip
noncomputable def S_sp_l11Hubs_0 (k : (List (List (Int))) × (List (Int))) (v : Int) : Tr ((Int) ⊕ ((Unit) ⊕ (Unit))) :=
  .t (decide (v < ((List.length k.2 : Nat) : Int)))
    (.g (inR v (List.length k.2)) <|
      .c (Bool) (F_sp_l1In (List.getD k.2 (Int.toNat v) (0 : Int)) (0 : Int) (IntKind.wrap .i64 (((List.length k.2 : Nat) : Int) - (1 : Int)))) fun r4_ =>
      .t (!r4_)
        (.l (.inr (.inr ())))
        (.l (.inl (IntKind.wrap .i64 (v + (1 : Int))))))
    (.l (.inr (.inl ())))
noncomputable def L_sp_l11Hubs_0 (k : (List (List (Int))) × (List (Int))) (v : Int) : Option ((Unit) ⊕ (Unit)) := iter (fun v => (S_sp_l11Hubs_0 k v).ev) v
noncomputable def DL_sp_l11Hubs_0 : LD where
  head := { acts := [], S := { slots := [0, 1, 5], sh := (.cons (.dat (.slice (.slice (.int .i64)))) (.cons (.dat (.slice (.int .i64))) (.cons (.dat (.int .i64)) .nil))), obs := [] } }
  exits := [(0, { acts := [], S := { slots := [0, 1], sh := (.cons (.dat (.slice (.slice (.int .i64)))) (.cons (.dat (.slice (.int .i64))) .nil)), obs := [] } })]
  rets := { acts := [], S := { slots := [4], sh := (.cons (.dat .bool) .nil), obs := [] } }
  K := (List (List (Int))) × (List (Int))
  V := Int
  R := (Unit) ⊕ (Unit)
  join := fun k v => ((k.1, (k.2, (v, ()))), ())
  sk := fun t => (t.1.1, t.1.2.1)
  sv := fun t => t.1.2.2.1
  step := S_sp_l11Hubs_0
  leaf := fun k r => .s (Unit) (Unit) r (fun _ => .l (.exit 0 (mkSt ({ slots := [0, 1], sh := (.cons (.dat (.slice (.slice (.int .i64)))) (.cons (.dat (.slice (.int .i64))) .nil)), obs := [] }) ((k.1, (k.2, ())), ())))) (fun _ => .l (.ret (mkSt ({ slots := [4], sh := (.cons (.dat .bool) .nil), obs := [] }) ((false, ()), ()))))
noncomputable def S_sp_l11Hubs_2 (k : (List (List (Int))) × (List (Int))) (v : Int) : Tr ((Int) ⊕ ((Unit) ⊕ (Unit))) :=
  .t (decide (v < ((List.length k.2 : Nat) : Int)))
    (.g (inR v (List.length k.2)) <|
      .g (inR (List.getD k.2 (Int.toNat v) (0 : Int)) (List.length k.2)) <|
      .g (inR v (List.length k.2)) <|
      .t ((List.getD k.2 (Int.toNat (List.getD k.2 (Int.toNat v) (0 : Int))) (0 : Int)) != (List.getD k.2 (Int.toNat v) (0 : Int)))
        (.l (.inr (.inr ())))
        (.l (.inl (IntKind.wrap .i64 (v + (1 : Int))))))
    (.l (.inr (.inl ())))
noncomputable def L_sp_l11Hubs_2 (k : (List (List (Int))) × (List (Int))) (v : Int) : Option ((Unit) ⊕ (Unit)) := iter (fun v => (S_sp_l11Hubs_2 k v).ev) v
noncomputable def DL_sp_l11Hubs_2 : LD where
  head := { acts := [], S := { slots := [0, 1, 6], sh := (.cons (.dat (.slice (.slice (.int .i64)))) (.cons (.dat (.slice (.int .i64))) (.cons (.dat (.int .i64)) .nil))), obs := [] } }
  exits := [(2, { acts := [], S := { slots := [0, 1], sh := (.cons (.dat (.slice (.slice (.int .i64)))) (.cons (.dat (.slice (.int .i64))) .nil)), obs := [] } })]
  rets := { acts := [], S := { slots := [4], sh := (.cons (.dat .bool) .nil), obs := [] } }
  K := (List (List (Int))) × (List (Int))
  V := Int
  R := (Unit) ⊕ (Unit)
  join := fun k v => ((k.1, (k.2, (v, ()))), ())
  sk := fun t => (t.1.1, t.1.2.1)
  sv := fun t => t.1.2.2.1
  step := S_sp_l11Hubs_2
  leaf := fun k r => .s (Unit) (Unit) r (fun _ => .l (.exit 2 (mkSt ({ slots := [0, 1], sh := (.cons (.dat (.slice (.slice (.int .i64)))) (.cons (.dat (.slice (.int .i64))) .nil)), obs := [] }) ((k.1, (k.2, ())), ())))) (fun _ => .l (.ret (mkSt ({ slots := [4], sh := (.cons (.dat .bool) .nil), obs := [] }) ((false, ()), ()))))
noncomputable def T_sp_l11Hubs (a1_ : List (List (Int))) (a2_ : List (Int)) : Tr (Bool) :=
  .c ((Unit) ⊕ (Unit)) (L_sp_l11Hubs_0 (a1_, a2_) (0 : Int)) fun r8_ =>
  .s (Unit) (Unit) r8_
    (fun _ => .c ((Unit) ⊕ (Unit)) (L_sp_l11Hubs_2 (a1_, a2_) (0 : Int)) fun r17_ =>
      .s (Unit) (Unit) r17_
        (fun _ => .l (((List.length a2_ : Nat) : Int) == ((List.length a1_ : Nat) : Int)))
        (fun _ => .l false))
    (fun _ => .l false)
noncomputable def F_sp_l11Hubs (a1_ : List (List (Int))) (a2_ : List (Int)) : Option (Bool) := (T_sp_l11Hubs a1_ a2_).ev
noncomputable def A_sp_l11Hubs : Sh := (.cons (.dat (.slice (.slice (.int .i64)))) (.cons (.dat (.slice (.int .i64))) .nil))
noncomputable def I_sp_l11Hubs : List (Nat × OSh) := []
noncomputable def K_sp_l11Hubs : RetK := { acts := [], res := [.tmp 4], sh := (.cons (.dat .bool) .nil), obs := [], pins := [] }
noncomputable def D_sp_l11Hubs : FD where
  A := A_sp_l11Hubs
  ins := I_sp_l11Hubs
  lend := []
  R := Bool
  F := fun x => F_sp_l11Hubs x.1.1 x.1.2.1
  emb := fun r => ([.dat .bool r], [])
noncomputable def E_sp_l11Hubs : Env := envOf [(84, D_sp_l1In)]
noncomputable def Z_sp_l11Hubs : Nat → Nat → List Nat := fun _ _ => []
noncomputable def O_sp_l11Hubs : List (Nat × LD) := [(0, DL_sp_l11Hubs_0), (2, DL_sp_l11Hubs_2)]
noncomputable def C_sp_l11Hubs : Code := (f125.body).getD .skip
noncomputable def S_sp_l11Cost_2 (k : (List (List (Int))) × ((List (List (Int))) × ((List (Int)) × ((Int) × (Int))))) (v : (Int) × (Int)) : Tr (((Int) × (Int)) ⊕ (Int)) :=
  .t (decide (v.2 < ((List.length k.1 : Nat) : Int)))
    (.t (k.2.2.2.2 != v.2)
        (.g (inR k.2.2.2.2 (List.length k.2.1)) <|
          .g (inR v.2 (List.length (List.getD k.2.1 (Int.toNat k.2.2.2.2) ([] : List (Int))))) <|
          .g (inR k.2.2.2.2 (List.length k.1)) <|
          .g (inR k.2.2.2.2 (List.length k.2.2.1)) <|
          .g (inR (List.getD k.2.2.1 (Int.toNat k.2.2.2.2) (0 : Int)) (List.length (List.getD k.1 (Int.toNat k.2.2.2.2) ([] : List (Int))))) <|
          .g (inR v.2 (List.length k.1)) <|
          .g (inR v.2 (List.length k.2.2.1)) <|
          .g (inR (List.getD k.2.2.1 (Int.toNat v.2) (0 : Int)) (List.length (List.getD k.1 (Int.toNat v.2) ([] : List (Int))))) <|
          .g (inR k.2.2.2.2 (List.length k.2.2.1)) <|
          .g (inR (List.getD k.2.2.1 (Int.toNat k.2.2.2.2) (0 : Int)) (List.length k.1)) <|
          .g (inR v.2 (List.length k.2.2.1)) <|
          .g (inR (List.getD k.2.2.1 (Int.toNat v.2) (0 : Int)) (List.length (List.getD k.1 (Int.toNat (List.getD k.2.2.1 (Int.toNat k.2.2.2.2) (0 : Int))) ([] : List (Int))))) <|
          .l (.inl ((IntKind.wrap .i64 (v.1 + (IntKind.wrap .i64 ((List.getD (List.getD k.2.1 (Int.toNat k.2.2.2.2) ([] : List (Int))) (Int.toNat v.2) (0 : Int)) * (IntKind.wrap .i64 ((IntKind.wrap .i64 ((10 : Int) * (IntKind.wrap .i64 ((List.getD (List.getD k.1 (Int.toNat k.2.2.2.2) ([] : List (Int))) (Int.toNat (List.getD k.2.2.1 (Int.toNat k.2.2.2.2) (0 : Int))) (0 : Int)) + (List.getD (List.getD k.1 (Int.toNat v.2) ([] : List (Int))) (Int.toNat (List.getD k.2.2.1 (Int.toNat v.2) (0 : Int))) (0 : Int)))))) + (IntKind.wrap .i64 (k.2.2.2.1 * (List.getD (List.getD k.1 (Int.toNat (List.getD k.2.2.1 (Int.toNat k.2.2.2.2) (0 : Int))) ([] : List (Int))) (Int.toNat (List.getD k.2.2.1 (Int.toNat v.2) (0 : Int))) (0 : Int)))))))))), (IntKind.wrap .i64 (v.2 + (1 : Int))))))
        (.l (.inl (v.1, (IntKind.wrap .i64 (v.2 + (1 : Int)))))))
    (.l (.inr v.1))
noncomputable def L_sp_l11Cost_2 (k : (List (List (Int))) × ((List (List (Int))) × ((List (Int)) × ((Int) × (Int))))) (v : (Int) × (Int)) : Option (Int) := iter (fun v => (S_sp_l11Cost_2 k v).ev) v
noncomputable def DL_sp_l11Cost_2 : LD where
  head := { acts := [], S := { slots := [0, 1, 2, 3, 9, 10, 11], sh := (.cons (.dat (.slice (.slice (.int .i64)))) (.cons (.dat (.slice (.slice (.int .i64)))) (.cons (.dat (.slice (.int .i64))) (.cons (.dat (.int .i64)) (.cons (.dat (.int .i64)) (.cons (.dat (.int .i64)) (.cons (.dat (.int .i64)) .nil))))))), obs := [] } }
  exits := [(2, { acts := [], S := { slots := [0, 1, 2, 3, 9, 10], sh := (.cons (.dat (.slice (.slice (.int .i64)))) (.cons (.dat (.slice (.slice (.int .i64)))) (.cons (.dat (.slice (.int .i64))) (.cons (.dat (.int .i64)) (.cons (.dat (.int .i64)) (.cons (.dat (.int .i64)) .nil)))))), obs := [] } })]
  rets := { acts := [], S := { slots := [], sh := .nil, obs := [] } }
  K := (List (List (Int))) × ((List (List (Int))) × ((List (Int)) × ((Int) × (Int))))
  V := (Int) × (Int)
  R := Int
  join := fun k v => ((k.1, (k.2.1, (k.2.2.1, (k.2.2.2.1, (v.1, (k.2.2.2.2, (v.2, ()))))))), ())
  sk := fun t => (t.1.1, (t.1.2.1, (t.1.2.2.1, (t.1.2.2.2.1, t.1.2.2.2.2.2.1))))
  sv := fun t => (t.1.2.2.2.2.1, t.1.2.2.2.2.2.2.1)
  step := S_sp_l11Cost_2
  leaf := fun k r => .l (.exit 2 (mkSt ({ slots := [0, 1, 2, 3, 9, 10], sh := (.cons (.dat (.slice (.slice (.int .i64)))) (.cons (.dat (.slice (.slice (.int .i64)))) (.cons (.dat (.slice (.int .i64))) (.cons (.dat (.int .i64)) (.cons (.dat (.int .i64)) (.cons (.dat (.int .i64)) .nil)))))), obs := [] }) ((k.1, (k.2.1, (k.2.2.1, (k.2.2.2.1, (r, (k.2.2.2.2, ())))))), ())))
noncomputable def S_sp_l11Cost_0 (k : (List (List (Int))) × ((List (List (Int))) × ((List (Int)) × (Int)))) (v : (Int) × (Int)) : Tr (((Int) × (Int)) ⊕ (Int)) :=
  .t (decide (v.2 < ((List.length k.1 : Nat) : Int)))
    (.c (Int) (L_sp_l11Cost_2 (k.1, (k.2.1, (k.2.2.1, (k.2.2.2, v.2)))) (v.1, (0 : Int))) fun r20_ =>
      .l (.inl (r20_, (IntKind.wrap .i64 (v.2 + (1 : Int))))))
    (.l (.inr v.1))
noncomputable def L_sp_l11Cost_0 (k : (List (List (Int))) × ((List (List (Int))) × ((List (Int)) × (Int)))) (v : (Int) × (Int)) : Option (Int) := iter (fun v => (S_sp_l11Cost_0 k v).ev) v
noncomputable def DL_sp_l11Cost_0 : LD where
  head := { acts := [], S := { slots := [0, 1, 2, 3, 9, 10], sh := (.cons (.dat (.slice (.slice (.int .i64)))) (.cons (.dat (.slice (.slice (.int .i64)))) (.cons (.dat (.slice (.int .i64))) (.cons (.dat (.int .i64)) (.cons (.dat (.int .i64)) (.cons (.dat (.int .i64)) .nil)))))), obs := [] } }
  exits := [(0, { acts := [], S := { slots := [9], sh := (.cons (.dat (.int .i64)) .nil), obs := [] } })]
  rets := { acts := [], S := { slots := [], sh := .nil, obs := [] } }
  K := (List (List (Int))) × ((List (List (Int))) × ((List (Int)) × (Int)))
  V := (Int) × (Int)
  R := Int
  join := fun k v => ((k.1, (k.2.1, (k.2.2.1, (k.2.2.2, (v.1, (v.2, ())))))), ())
  sk := fun t => (t.1.1, (t.1.2.1, (t.1.2.2.1, t.1.2.2.2.1)))
  sv := fun t => (t.1.2.2.2.2.1, t.1.2.2.2.2.2.1)
  step := S_sp_l11Cost_0
  leaf := fun _ r => .l (.exit 0 (mkSt ({ slots := [9], sh := (.cons (.dat (.int .i64)) .nil), obs := [] }) ((r, ()), ())))
noncomputable def T_sp_l11Cost (a1_ : List (List (Int))) (a2_ : List (List (Int))) (a3_ : List (Int)) (a4_ : Int) : Tr (Int) :=
  .c (Int) (L_sp_l11Cost_0 (a1_, (a2_, (a3_, a4_))) ((0 : Int), (0 : Int))) fun r22_ =>
  .l r22_
noncomputable def F_sp_l11Cost (a1_ : List (List (Int))) (a2_ : List (List (Int))) (a3_ : List (Int)) (a4_ : Int) : Option (Int) := (T_sp_l11Cost a1_ a2_ a3_ a4_).ev
noncomputable def A_sp_l11Cost : Sh := (.cons (.dat (.slice (.slice (.int .i64)))) (.cons (.dat (.slice (.slice (.int .i64)))) (.cons (.dat (.slice (.int .i64))) (.cons (.dat (.int .i64)) .nil))))
noncomputable def I_sp_l11Cost : List (Nat × OSh) := []
noncomputable def K_sp_l11Cost : RetK := { acts := [], res := [.tmp 8], sh := (.cons (.dat (.int .i64)) .nil), obs := [], pins := [] }
noncomputable def D_sp_l11Cost : FD where
  A := A_sp_l11Cost
  ins := I_sp_l11Cost
  lend := []
  R := Int
  F := fun x => F_sp_l11Cost x.1.1 x.1.2.1 x.1.2.2.1 x.1.2.2.2.1
  emb := fun r => ([.dat (.int .i64) r], [])
noncomputable def E_sp_l11Cost : Env := envOf []
noncomputable def Z_sp_l11Cost : Nat → Nat → List Nat := fun _ _ => []
noncomputable def O_sp_l11Cost : List (Nat × LD) := [(2, DL_sp_l11Cost_2), (0, DL_sp_l11Cost_0)]
noncomputable def C_sp_l11Cost : Code := (f126.body).getD .skip
noncomputable def T_sp_HubCost (a1_ : List (List (Int))) (a2_ : List (List (Int))) (a3_ : List (Int)) (a4_ : Int) : Tr ((Int) × (Bool)) :=
  .c (Bool) (F_sp_l11Flows a1_ a2_ a4_) fun r1_ =>
  .t (!r1_)
    (.l ((0 : Int), false))
    (.c (Bool) (F_sp_l11Hubs a1_ a3_) fun r2_ =>
      .t (!r2_)
        (.l ((0 : Int), false))
        (.c (Int) (F_sp_l11Cost a1_ a2_ a3_ a4_) fun r3_ =>
          .l (r3_, true)))
noncomputable def F_sp_HubCost (a1_ : List (List (Int))) (a2_ : List (List (Int))) (a3_ : List (Int)) (a4_ : Int) : Option ((Int) × (Bool)) := (T_sp_HubCost a1_ a2_ a3_ a4_).ev
noncomputable def A_sp_HubCost : Sh := (.cons (.dat (.slice (.slice (.int .i64)))) (.cons (.dat (.slice (.slice (.int .i64)))) (.cons (.dat (.slice (.int .i64))) (.cons (.dat (.int .i64)) .nil))))
noncomputable def I_sp_HubCost : List (Nat × OSh) := []
noncomputable def K_sp_HubCost : RetK := { acts := [], res := [.tmp 8, .tmp 9], sh := (.cons (.dat (.int .i64)) (.cons (.dat .bool) .nil)), obs := [], pins := [] }
noncomputable def D_sp_HubCost : FD where
  A := A_sp_HubCost
  ins := I_sp_HubCost
  lend := []
  R := (Int) × (Bool)
  F := fun x => F_sp_HubCost x.1.1 x.1.2.1 x.1.2.2.1 x.1.2.2.2.1
  emb := fun r => ([.dat (.int .i64) r.1, .dat .bool r.2], [])
noncomputable def E_sp_HubCost : Env := envOf [(83, D_sp_l11Flows), (125, D_sp_l11Hubs), (126, D_sp_l11Cost)]
noncomputable def Z_sp_HubCost : Nat → Nat → List Nat := fun _ _ => []
noncomputable def O_sp_HubCost : List (Nat × LD) := []
noncomputable def C_sp_HubCost : Code := (f54.body).getD .skip
noncomputable def T_im_IsAllocation (a1_ : List (List (Int))) (a2_ : List (Int)) : Tr ((Bool) × (Bool)) :=
  .c (Bool) (F_im_isNet a1_) fun r1_ =>
  .t (!r1_)
    (.l (false, false))
    (.c (Bool) (F_im_isAllocation ((List.length a1_ : Nat) : Int) a2_) fun r2_ =>
      .l (r2_, true))
noncomputable def F_im_IsAllocation (a1_ : List (List (Int))) (a2_ : List (Int)) : Option ((Bool) × (Bool)) := (T_im_IsAllocation a1_ a2_).ev
noncomputable def A_im_IsAllocation : Sh := (.cons (.dat (.slice (.slice (.int .i64)))) (.cons (.dat (.slice (.int .i64))) .nil))
noncomputable def I_im_IsAllocation : List (Nat × OSh) := []
noncomputable def K_im_IsAllocation : RetK := { acts := [], res := [.tmp 4, .tmp 5], sh := (.cons (.dat .bool) (.cons (.dat .bool) .nil)), obs := [], pins := [] }
noncomputable def D_im_IsAllocation : FD where
  A := A_im_IsAllocation
  ins := I_im_IsAllocation
  lend := []
  R := (Bool) × (Bool)
  F := fun x => F_im_IsAllocation x.1.1 x.1.2.1
  emb := fun r => ([.dat .bool r.1, .dat .bool r.2], [])
noncomputable def E_im_IsAllocation : Env := envOf [(86, D_im_isNet), (89, D_im_isAllocation)]
noncomputable def Z_im_IsAllocation : Nat → Nat → List Nat := fun _ _ => []
noncomputable def O_im_IsAllocation : List (Nat × LD) := []
noncomputable def C_im_IsAllocation : Code := (f55.body).getD .skip
noncomputable def T_sp_IsAllocation (a1_ : List (List (Int))) (a2_ : List (Int)) : Tr ((Bool) × (Bool)) :=
  .c (Bool) (F_sp_l11Small a1_) fun r1_ =>
  .t (!r1_)
    (.l (false, false))
    (.c (Bool) (F_sp_l11Hubs a1_ a2_) fun r2_ =>
      .l (r2_, true))
noncomputable def F_sp_IsAllocation (a1_ : List (List (Int))) (a2_ : List (Int)) : Option ((Bool) × (Bool)) := (T_sp_IsAllocation a1_ a2_).ev
noncomputable def A_sp_IsAllocation : Sh := (.cons (.dat (.slice (.slice (.int .i64)))) (.cons (.dat (.slice (.int .i64))) .nil))
noncomputable def I_sp_IsAllocation : List (Nat × OSh) := []
noncomputable def K_sp_IsAllocation : RetK := { acts := [], res := [.tmp 4, .tmp 5], sh := (.cons (.dat .bool) (.cons (.dat .bool) .nil)), obs := [], pins := [] }
noncomputable def D_sp_IsAllocation : FD where
  A := A_sp_IsAllocation
  ins := I_sp_IsAllocation
  lend := []
  R := (Bool) × (Bool)
  F := fun x => F_sp_IsAllocation x.1.1 x.1.2.1
  emb := fun r => ([.dat .bool r.1, .dat .bool r.2], [])
noncomputable def E_sp_IsAllocation : Env := envOf [(127, D_sp_l11Small), (125, D_sp_l11Hubs)]
noncomputable def Z_sp_IsAllocation : Nat → Nat → List Nat := fun _ _ => []
noncomputable def O_sp_IsAllocation : List (Nat × LD) := []
noncomputable def C_sp_IsAllocation : Code := (f56.body).getD .skip
noncomputable def T_sp_DrawIsAllocation (a1_ : List (Int)) : Tr ((List (List (Int))) × (List (Int))) :=
  .c ((Int) × ((List (Int)) × ((Int) × (Int)))) (F_sp_l1Cur_among ([(5 : Int), (5 : Int), (5 : Int), (4 : Int), (7 : Int)] : List (Int)) a1_ (0 : Int) (0 : Int)) fun r1_ =>
  .c ((List (List (Int))) × ((List (Int)) × ((Int) × (Int)))) (F_sp_l1Cur_ground r1_.1 r1_.2.1 r1_.2.2.1 r1_.2.2.2) fun r2_ =>
  .c ((List (Int)) × ((List (Int)) × ((Int) × (Int)))) (F_sp_l1Cur_hubs r2_.1 r2_.2.1 r2_.2.2.1 r2_.2.2.2) fun r3_ =>
  .l (r2_.1, r3_.1)
noncomputable def F_sp_DrawIsAllocation (a1_ : List (Int)) : Option ((List (List (Int))) × (List (Int))) := (T_sp_DrawIsAllocation a1_).ev
noncomputable def A_sp_DrawIsAllocation : Sh := (.cons (.dat (.slice (.int .u8))) .nil)
noncomputable def I_sp_DrawIsAllocation : List (Nat × OSh) := []
noncomputable def K_sp_DrawIsAllocation : RetK := { acts := [.ren 1088 1], res := [.tmp 2, .tmp 3], sh := (.cons (.dat (.slice (.slice (.int .i64)))) (.cons (.arr 1) .nil)), obs := [(1, .arr 3 (.int .i64))], pins := [] }
noncomputable def D_sp_DrawIsAllocation : FD where
  A := A_sp_DrawIsAllocation
  ins := I_sp_DrawIsAllocation
  lend := []
  R := (List (List (Int))) × (List (Int))
  F := fun x => F_sp_DrawIsAllocation x.1.1
  emb := fun r => ([.dat (.slice (.slice (.int .i64))) r.1, .arr 1], [(1, .arr 3 (.int .i64) r.2)])
noncomputable def E_sp_DrawIsAllocation : Env := envOf [(128, D_sp_l1Cur_among), (121, D_sp_l1Cur_ground), (123, D_sp_l1Cur_hubs)]
noncomputable def Z_sp_DrawIsAllocation : Nat → Nat → List Nat := fun r i => match look [(2, [(3, [11])]), (3, [(3, [16])])] r with
  | some l => (look l i).getD []
  | none => []
noncomputable def O_sp_DrawIsAllocation : List (Nat × LD) := []
noncomputable def C_sp_DrawIsAllocation : Code := (f57.body).getD .skip
noncomputable def T_sp_DrawBestHubs (a1_ : List (Int)) : Tr ((List (List (Int))) × ((List (List (Int))) × ((Int) × (Int)))) :=
  .c ((Int) × ((List (Int)) × ((Int) × (Int)))) (F_sp_l1Cur_among ([(4 : Int), (4 : Int), (4 : Int), (3 : Int), (5 : Int), (6 : Int)] : List (Int)) a1_ (0 : Int) (0 : Int)) fun r1_ =>
  .c ((List (List (Int))) × ((List (Int)) × ((Int) × (Int)))) (F_sp_l1Cur_ground r1_.1 r1_.2.1 r1_.2.2.1 r1_.2.2.2) fun r2_ =>
  .c ((List (List (Int))) × ((List (Int)) × ((Int) × (Int)))) (F_sp_l1Cur_flows r2_.1 r2_.2.1 r2_.2.2.1 r2_.2.2.2) fun r3_ =>
  .c ((Int) × ((List (Int)) × ((Int) × (Int)))) (F_sp_l1Cur_among ([(1 : Int), (2 : Int), (3 : Int), (2 : Int), (5 : Int), (0 : Int), (6 : Int)] : List (Int)) r3_.2.1 r3_.2.2.1 r3_.2.2.2) fun r4_ =>
  .c ((Int) × ((List (Int)) × ((Int) × (Int)))) (F_sp_l1Cur_discount r4_.2.1 r4_.2.2.1 r4_.2.2.2) fun r5_ =>
  .l (r2_.1, (r3_.1, (r4_.1, r5_.1)))
noncomputable def F_sp_DrawBestHubs (a1_ : List (Int)) : Option ((List (List (Int))) × ((List (List (Int))) × ((Int) × (Int)))) := (T_sp_DrawBestHubs a1_).ev
noncomputable def A_sp_DrawBestHubs : Sh := (.cons (.dat (.slice (.int .u8))) .nil)
noncomputable def I_sp_DrawBestHubs : List (Nat × OSh) := []
noncomputable def K_sp_DrawBestHubs : RetK := { acts := [], res := [.tmp 2, .tmp 3, .tmp 4, .tmp 5], sh := (.cons (.dat (.slice (.slice (.int .i64)))) (.cons (.dat (.slice (.slice (.int .i64)))) (.cons (.dat (.int .i64)) (.cons (.dat (.int .i64)) .nil)))), obs := [], pins := [] }
noncomputable def D_sp_DrawBestHubs : FD where
  A := A_sp_DrawBestHubs
  ins := I_sp_DrawBestHubs
  lend := []
  R := (List (List (Int))) × ((List (List (Int))) × ((Int) × (Int)))
  F := fun x => F_sp_DrawBestHubs x.1.1
  emb := fun r => ([.dat (.slice (.slice (.int .i64))) r.1, .dat (.slice (.slice (.int .i64))) r.2.1, .dat (.int .i64) r.2.2.1, .dat (.int .i64) r.2.2.2], [])
noncomputable def E_sp_DrawBestHubs : Env := envOf [(128, D_sp_l1Cur_among), (121, D_sp_l1Cur_ground), (122, D_sp_l1Cur_flows), (124, D_sp_l1Cur_discount)]
noncomputable def Z_sp_DrawBestHubs : Nat → Nat → List Nat := fun r i => match look [(2, [(3, [13])]), (3, [(3, [18]), (6, [21])])] r with
  | some l => (look l i).getD []
  | none => []
noncomputable def O_sp_DrawBestHubs : List (Nat × LD) := []
noncomputable def C_sp_DrawBestHubs : Code := (f58.body).getD .skip
noncomputable def S_im_bagOf_0 (k : (List (Int)) × (Int)) (v : (Int) × (Int)) : Tr (((Int) × (Int)) ⊕ (Int)) :=
  .t (decide (v.2 < k.2))
    (.g (inR v.2 (List.length k.1)) <|
      .g (decide ((0 : Int) ≤ (List.getD k.1 (Int.toNat v.2) (0 : Int)))) <|
      .l (.inl ((IntKind.wrap .u64 (BitVec.toNat ((BitVec.ofInt (IntKind.bits .u64) v.1) ||| (BitVec.ofInt (IntKind.bits .u64) (IntKind.wrap .u64 ((1 : Int) * 2 ^ (min (Int.toNat (List.getD k.1 (Int.toNat v.2) (0 : Int))) (IntKind.bits .u64)))))))), (IntKind.wrap .i64 (v.2 + (1 : Int))))))
    (.l (.inr v.1))
noncomputable def L_im_bagOf_0 (k : (List (Int)) × (Int)) (v : (Int) × (Int)) : Option (Int) := iter (fun v => (S_im_bagOf_0 k v).ev) v
noncomputable def DL_im_bagOf_0 : LD where
  head := { acts := [], S := { slots := [3, 6, 7, 8], sh := (.cons (.dat (.int .u64)) (.cons (.dat (.slice (.int .i64))) (.cons (.dat (.int .i64)) (.cons (.dat (.int .i64)) .nil)))), obs := [] } }
  exits := [(0, { acts := [], S := { slots := [3], sh := (.cons (.dat (.int .u64)) .nil), obs := [] } })]
  rets := { acts := [], S := { slots := [], sh := .nil, obs := [] } }
  K := (List (Int)) × (Int)
  V := (Int) × (Int)
  R := Int
  join := fun k v => ((v.1, (k.1, (k.2, (v.2, ())))), ())
  sk := fun t => (t.1.2.1, t.1.2.2.1)
  sv := fun t => (t.1.1, t.1.2.2.2.1)
  step := S_im_bagOf_0
  leaf := fun _ r => .l (.exit 0 (mkSt ({ slots := [3], sh := (.cons (.dat (.int .u64)) .nil), obs := [] }) ((r, ()), ())))
noncomputable def T_im_bagOf (a1_ : List (Int)) : Tr (Int) :=
  .c (Int) (L_im_bagOf_0 (a1_, ((List.length a1_ : Nat) : Int)) ((0 : Int), (0 : Int))) fun r6_ =>
  .l r6_
noncomputable def F_im_bagOf (a1_ : List (Int)) : Option (Int) := (T_im_bagOf a1_).ev
noncomputable def A_im_bagOf : Sh := (.cons (.dat (.slice (.int .i64))) .nil)
noncomputable def I_im_bagOf : List (Nat × OSh) := []
noncomputable def K_im_bagOf : RetK := { acts := [], res := [.tmp 2], sh := (.cons (.dat (.int .u64)) .nil), obs := [], pins := [] }
noncomputable def D_im_bagOf : FD where
  A := A_im_bagOf
  ins := I_im_bagOf
  lend := []
  R := Int
  F := fun x => F_im_bagOf x.1.1
  emb := fun r => ([.dat (.int .u64) r], [])
noncomputable def E_im_bagOf : Env := envOf []
noncomputable def Z_im_bagOf : Nat → Nat → List Nat := fun _ _ => []
noncomputable def O_im_bagOf : List (Nat × LD) := [(0, DL_im_bagOf_0)]
noncomputable def C_im_bagOf : Code := (f90.body).getD .skip
noncomputable def T_math_bits_OnesCount64 (a1_ : Int) : Tr (Int) :=
  .g (decide ((0 : Int) ≤ (1 : Int))) <|
  .g (decide ((0 : Int) ≤ (2 : Int))) <|
  .g (decide ((0 : Int) ≤ (4 : Int))) <|
  .g (decide ((0 : Int) ≤ (8 : Int))) <|
  .g (decide ((0 : Int) ≤ (16 : Int))) <|
  .g (decide ((0 : Int) ≤ (32 : Int))) <|
  .l (IntKind.wrap .i64 (BitVec.toNat ((BitVec.ofInt (IntKind.bits .i64) (IntKind.wrap .i64 (IntKind.wrap .u64 ((IntKind.wrap .u64 ((IntKind.wrap .u64 ((IntKind.wrap .u64 (BitVec.toNat ((BitVec.ofInt (IntKind.bits .u64) (IntKind.wrap .u64 ((Int.fdiv (IntKind.wrap .u64 ((IntKind.wrap .u64 (BitVec.toNat ((BitVec.ofInt (IntKind.bits .u64) (Int.fdiv (IntKind.wrap .u64 ((IntKind.wrap .u64 (BitVec.toNat ((BitVec.ofInt (IntKind.bits .u64) (Int.fdiv a1_ (2 ^ (min (Int.toNat (1 : Int)) (IntKind.bits .u64))))) &&& (BitVec.ofInt (IntKind.bits .u64) (6148914691236517205 : Int))))) + (IntKind.wrap .u64 (BitVec.toNat ((BitVec.ofInt (IntKind.bits .u64) a1_) &&& (BitVec.ofInt (IntKind.bits .u64) (6148914691236517205 : Int))))))) (2 ^ (min (Int.toNat (2 : Int)) (IntKind.bits .u64))))) &&& (BitVec.ofInt (IntKind.bits .u64) (3689348814741910323 : Int))))) + (IntKind.wrap .u64 (BitVec.toNat ((BitVec.ofInt (IntKind.bits .u64) (IntKind.wrap .u64 ((IntKind.wrap .u64 (BitVec.toNat ((BitVec.ofInt (IntKind.bits .u64) (Int.fdiv a1_ (2 ^ (min (Int.toNat (1 : Int)) (IntKind.bits .u64))))) &&& (BitVec.ofInt (IntKind.bits .u64) (6148914691236517205 : Int))))) + (IntKind.wrap .u64 (BitVec.toNat ((BitVec.ofInt (IntKind.bits .u64) a1_) &&& (BitVec.ofInt (IntKind.bits .u64) (6148914691236517205 : Int)))))))) &&& (BitVec.ofInt (IntKind.bits .u64) (3689348814741910323 : Int))))))) (2 ^ (min (Int.toNat (4 : Int)) (IntKind.bits .u64)))) + (IntKind.wrap .u64 ((IntKind.wrap .u64 (BitVec.toNat ((BitVec.ofInt (IntKind.bits .u64) (Int.fdiv (IntKind.wrap .u64 ((IntKind.wrap .u64 (BitVec.toNat ((BitVec.ofInt (IntKind.bits .u64) (Int.fdiv a1_ (2 ^ (min (Int.toNat (1 : Int)) (IntKind.bits .u64))))) &&& (BitVec.ofInt (IntKind.bits .u64) (6148914691236517205 : Int))))) + (IntKind.wrap .u64 (BitVec.toNat ((BitVec.ofInt (IntKind.bits .u64) a1_) &&& (BitVec.ofInt (IntKind.bits .u64) (6148914691236517205 : Int))))))) (2 ^ (min (Int.toNat (2 : Int)) (IntKind.bits .u64))))) &&& (BitVec.ofInt (IntKind.bits .u64) (3689348814741910323 : Int))))) + (IntKind.wrap .u64 (BitVec.toNat ((BitVec.ofInt (IntKind.bits .u64) (IntKind.wrap .u64 ((IntKind.wrap .u64 (BitVec.toNat ((BitVec.ofInt (IntKind.bits .u64) (Int.fdiv a1_ (2 ^ (min (Int.toNat (1 : Int)) (IntKind.bits .u64))))) &&& (BitVec.ofInt (IntKind.bits .u64) (6148914691236517205 : Int))))) + (IntKind.wrap .u64 (BitVec.toNat ((BitVec.ofInt (IntKind.bits .u64) a1_) &&& (BitVec.ofInt (IntKind.bits .u64) (6148914691236517205 : Int)))))))) &&& (BitVec.ofInt (IntKind.bits .u64) (3689348814741910323 : Int)))))))))) &&& (BitVec.ofInt (IntKind.bits .u64) (1085102592571150095 : Int))))) + (Int.fdiv (IntKind.wrap .u64 (BitVec.toNat ((BitVec.ofInt (IntKind.bits .u64) (IntKind.wrap .u64 ((Int.fdiv (IntKind.wrap .u64 ((IntKind.wrap .u64 (BitVec.toNat ((BitVec.ofInt (IntKind.bits .u64) (Int.fdiv (IntKind.wrap .u64 ((IntKind.wrap .u64 (BitVec.toNat ((BitVec.ofInt (IntKind.bits .u64) (Int.fdiv a1_ (2 ^ (min (Int.toNat (1 : Int)) (IntKind.bits .u64))))) &&& (BitVec.ofInt (IntKind.bits .u64) (6148914691236517205 : Int))))) + (IntKind.wrap .u64 (BitVec.toNat ((BitVec.ofInt (IntKind.bits .u64) a1_) &&& (BitVec.ofInt (IntKind.bits .u64) (6148914691236517205 : Int))))))) (2 ^ (min (Int.toNat (2 : Int)) (IntKind.bits .u64))))) &&& (BitVec.ofInt (IntKind.bits .u64) (3689348814741910323 : Int))))) + (IntKind.wrap .u64 (BitVec.toNat ((BitVec.ofInt (IntKind.bits .u64) (IntKind.wrap .u64 ((IntKind.wrap .u64 (BitVec.toNat ((BitVec.ofInt (IntKind.bits .u64) (Int.fdiv a1_ (2 ^ (min (Int.toNat (1 : Int)) (IntKind.bits .u64))))) &&& (BitVec.ofInt (IntKind.bits .u64) (6148914691236517205 : Int))))) + (IntKind.wrap .u64 (BitVec.toNat ((BitVec.ofInt (IntKind.bits .u64) a1_) &&& (BitVec.ofInt (IntKind.bits .u64) (6148914691236517205 : Int)))))))) &&& (BitVec.ofInt (IntKind.bits .u64) (3689348814741910323 : Int))))))) (2 ^ (min (Int.toNat (4 : Int)) (IntKind.bits .u64)))) + (IntKind.wrap .u64 ((IntKind.wrap .u64 (BitVec.toNat ((BitVec.ofInt (IntKind.bits .u64) (Int.fdiv (IntKind.wrap .u64 ((IntKind.wrap .u64 (BitVec.toNat ((BitVec.ofInt (IntKind.bits .u64) (Int.fdiv a1_ (2 ^ (min (Int.toNat (1 : Int)) (IntKind.bits .u64))))) &&& (BitVec.ofInt (IntKind.bits .u64) (6148914691236517205 : Int))))) + (IntKind.wrap .u64 (BitVec.toNat ((BitVec.ofInt (IntKind.bits .u64) a1_) &&& (BitVec.ofInt (IntKind.bits .u64) (6148914691236517205 : Int))))))) (2 ^ (min (Int.toNat (2 : Int)) (IntKind.bits .u64))))) &&& (BitVec.ofInt (IntKind.bits .u64) (3689348814741910323 : Int))))) + (IntKind.wrap .u64 (BitVec.toNat ((BitVec.ofInt (IntKind.bits .u64) (IntKind.wrap .u64 ((IntKind.wrap .u64 (BitVec.toNat ((BitVec.ofInt (IntKind.bits .u64) (Int.fdiv a1_ (2 ^ (min (Int.toNat (1 : Int)) (IntKind.bits .u64))))) &&& (BitVec.ofInt (IntKind.bits .u64) (6148914691236517205 : Int))))) + (IntKind.wrap .u64 (BitVec.toNat ((BitVec.ofInt (IntKind.bits .u64) a1_) &&& (BitVec.ofInt (IntKind.bits .u64) (6148914691236517205 : Int)))))))) &&& (BitVec.ofInt (IntKind.bits .u64) (3689348814741910323 : Int)))))))))) &&& (BitVec.ofInt (IntKind.bits .u64) (1085102592571150095 : Int))))) (2 ^ (min (Int.toNat (8 : Int)) (IntKind.bits .u64)))))) + (Int.fdiv (IntKind.wrap .u64 ((IntKind.wrap .u64 (BitVec.toNat ((BitVec.ofInt (IntKind.bits .u64) (IntKind.wrap .u64 ((Int.fdiv (IntKind.wrap .u64 ((IntKind.wrap .u64 (BitVec.toNat ((BitVec.ofInt (IntKind.bits .u64) (Int.fdiv (IntKind.wrap .u64 ((IntKind.wrap .u64 (BitVec.toNat ((BitVec.ofInt (IntKind.bits .u64) (Int.fdiv a1_ (2 ^ (min (Int.toNat (1 : Int)) (IntKind.bits .u64))))) &&& (BitVec.ofInt (IntKind.bits .u64) (6148914691236517205 : Int))))) + (IntKind.wrap .u64 (BitVec.toNat ((BitVec.ofInt (IntKind.bits .u64) a1_) &&& (BitVec.ofInt (IntKind.bits .u64) (6148914691236517205 : Int))))))) (2 ^ (min (Int.toNat (2 : Int)) (IntKind.bits .u64))))) &&& (BitVec.ofInt (IntKind.bits .u64) (3689348814741910323 : Int))))) + (IntKind.wrap .u64 (BitVec.toNat ((BitVec.ofInt (IntKind.bits .u64) (IntKind.wrap .u64 ((IntKind.wrap .u64 (BitVec.toNat ((BitVec.ofInt (IntKind.bits .u64) (Int.fdiv a1_ (2 ^ (min (Int.toNat (1 : Int)) (IntKind.bits .u64))))) &&& (BitVec.ofInt (IntKind.bits .u64) (6148914691236517205 : Int))))) + (IntKind.wrap .u64 (BitVec.toNat ((BitVec.ofInt (IntKind.bits .u64) a1_) &&& (BitVec.ofInt (IntKind.bits .u64) (6148914691236517205 : Int)))))))) &&& (BitVec.ofInt (IntKind.bits .u64) (3689348814741910323 : Int))))))) (2 ^ (min (Int.toNat (4 : Int)) (IntKind.bits .u64)))) + (IntKind.wrap .u64 ((IntKind.wrap .u64 (BitVec.toNat ((BitVec.ofInt (IntKind.bits .u64) (Int.fdiv (IntKind.wrap .u64 ((IntKind.wrap .u64 (BitVec.toNat ((BitVec.ofInt (IntKind.bits .u64) (Int.fdiv a1_ (2 ^ (min (Int.toNat (1 : Int)) (IntKind.bits .u64))))) &&& (BitVec.ofInt (IntKind.bits .u64) (6148914691236517205 : Int))))) + (IntKind.wrap .u64 (BitVec.toNat ((BitVec.ofInt (IntKind.bits .u64) a1_) &&& (BitVec.ofInt (IntKind.bits .u64) (6148914691236517205 : Int))))))) (2 ^ (min (Int.toNat (2 : Int)) (IntKind.bits .u64))))) &&& (BitVec.ofInt (IntKind.bits .u64) (3689348814741910323 : Int))))) + (IntKind.wrap .u64 (BitVec.toNat ((BitVec.ofInt (IntKind.bits .u64) (IntKind.wrap .u64 ((IntKind.wrap .u64 (BitVec.toNat ((BitVec.ofInt (IntKind.bits .u64) (Int.fdiv a1_ (2 ^ (min (Int.toNat (1 : Int)) (IntKind.bits .u64))))) &&& (BitVec.ofInt (IntKind.bits .u64) (6148914691236517205 : Int))))) + (IntKind.wrap .u64 (BitVec.toNat ((BitVec.ofInt (IntKind.bits .u64) a1_) &&& (BitVec.ofInt (IntKind.bits .u64) (6148914691236517205 : Int)))))))) &&& (BitVec.ofInt (IntKind.bits .u64) (3689348814741910323 : Int)))))))))) &&& (BitVec.ofInt (IntKind.bits .u64) (1085102592571150095 : Int))))) + (Int.fdiv (IntKind.wrap .u64 (BitVec.toNat ((BitVec.ofInt (IntKind.bits .u64) (IntKind.wrap .u64 ((Int.fdiv (IntKind.wrap .u64 ((IntKind.wrap .u64 (BitVec.toNat ((BitVec.ofInt (IntKind.bits .u64) (Int.fdiv (IntKind.wrap .u64 ((IntKind.wrap .u64 (BitVec.toNat ((BitVec.ofInt (IntKind.bits .u64) (Int.fdiv a1_ (2 ^ (min (Int.toNat (1 : Int)) (IntKind.bits .u64))))) &&& (BitVec.ofInt (IntKind.bits .u64) (6148914691236517205 : Int))))) + (IntKind.wrap .u64 (BitVec.toNat ((BitVec.ofInt (IntKind.bits .u64) a1_) &&& (BitVec.ofInt (IntKind.bits .u64) (6148914691236517205 : Int))))))) (2 ^ (min (Int.toNat (2 : Int)) (IntKind.bits .u64))))) &&& (BitVec.ofInt (IntKind.bits .u64) (3689348814741910323 : Int))))) + (IntKind.wrap .u64 (BitVec.toNat ((BitVec.ofInt (IntKind.bits .u64) (IntKind.wrap .u64 ((IntKind.wrap .u64 (BitVec.toNat ((BitVec.ofInt (IntKind.bits .u64) (Int.fdiv a1_ (2 ^ (min (Int.toNat (1 : Int)) (IntKind.bits .u64))))) &&& (BitVec.ofInt (IntKind.bits .u64) (6148914691236517205 : Int))))) + (IntKind.wrap .u64 (BitVec.toNat ((BitVec.ofInt (IntKind.bits .u64) a1_) &&& (BitVec.ofInt (IntKind.bits .u64) (6148914691236517205 : Int)))))))) &&& (BitVec.ofInt (IntKind.bits .u64) (3689348814741910323 : Int))))))) (2 ^ (min (Int.toNat (4 : Int)) (IntKind.bits .u64)))) + (IntKind.wrap .u64 ((IntKind.wrap .u64 (BitVec.toNat ((BitVec.ofInt (IntKind.bits .u64) (Int.fdiv (IntKind.wrap .u64 ((IntKind.wrap .u64 (BitVec.toNat ((BitVec.ofInt (IntKind.bits .u64) (Int.fdiv a1_ (2 ^ (min (Int.toNat (1 : Int)) (IntKind.bits .u64))))) &&& (BitVec.ofInt (IntKind.bits .u64) (6148914691236517205 : Int))))) + (IntKind.wrap .u64 (BitVec.toNat ((BitVec.ofInt (IntKind.bits .u64) a1_) &&& (BitVec.ofInt (IntKind.bits .u64) (6148914691236517205 : Int))))))) (2 ^ (min (Int.toNat (2 : Int)) (IntKind.bits .u64))))) &&& (BitVec.ofInt (IntKind.bits .u64) (3689348814741910323 : Int))))) + (IntKind.wrap .u64 (BitVec.toNat ((BitVec.ofInt (IntKind.bits .u64) (IntKind.wrap .u64 ((IntKind.wrap .u64 (BitVec.toNat ((BitVec.ofInt (IntKind.bits .u64) (Int.fdiv a1_ (2 ^ (min (Int.toNat (1 : Int)) (IntKind.bits .u64))))) &&& (BitVec.ofInt (IntKind.bits .u64) (6148914691236517205 : Int))))) + (IntKind.wrap .u64 (BitVec.toNat ((BitVec.ofInt (IntKind.bits .u64) a1_) &&& (BitVec.ofInt (IntKind.bits .u64) (6148914691236517205 : Int)))))))) &&& (BitVec.ofInt (IntKind.bits .u64) (3689348814741910323 : Int)))))))))) &&& (BitVec.ofInt (IntKind.bits .u64) (1085102592571150095 : Int))))) (2 ^ (min (Int.toNat (8 : Int)) (IntKind.bits .u64)))))) (2 ^ (min (Int.toNat (16 : Int)) (IntKind.bits .u64)))))) + (Int.fdiv (IntKind.wrap .u64 ((IntKind.wrap .u64 ((IntKind.wrap .u64 (BitVec.toNat ((BitVec.ofInt (IntKind.bits .u64) (IntKind.wrap .u64 ((Int.fdiv (IntKind.wrap .u64 ((IntKind.wrap .u64 (BitVec.toNat ((BitVec.ofInt (IntKind.bits .u64) (Int.fdiv (IntKind.wrap .u64 ((IntKind.wrap .u64 (BitVec.toNat ((BitVec.ofInt (IntKind.bits .u64) (Int.fdiv a1_ (2 ^ (min (Int.toNat (1 : Int)) (IntKind.bits .u64))))) &&& (BitVec.ofInt (IntKind.bits .u64) (6148914691236517205 : Int))))) + (IntKind.wrap .u64 (BitVec.toNat ((BitVec.ofInt (IntKind.bits .u64) a1_) &&& (BitVec.ofInt (IntKind.bits .u64) (6148914691236517205 : Int))))))) (2 ^ (min (Int.toNat (2 : Int)) (IntKind.bits .u64))))) &&& (BitVec.ofInt (IntKind.bits .u64) (3689348814741910323 : Int))))) + (IntKind.wrap .u64 (BitVec.toNat ((BitVec.ofInt (IntKind.bits .u64) (IntKind.wrap .u64 ((IntKind.wrap .u64 (BitVec.toNat ((BitVec.ofInt (IntKind.bits .u64) (Int.fdiv a1_ (2 ^ (min (Int.toNat (1 : Int)) (IntKind.bits .u64))))) &&& (BitVec.ofInt (IntKind.bits .u64) (6148914691236517205 : Int))))) + (IntKind.wrap .u64 (BitVec.toNat ((BitVec.ofInt (IntKind.bits .u64) a1_) &&& (BitVec.ofInt (IntKind.bits .u64) (6148914691236517205 : Int)))))))) &&& (BitVec.ofInt (IntKind.bits .u64) (3689348814741910323 : Int))))))) (2 ^ (min (Int.toNat (4 : Int)) (IntKind.bits .u64)))) + (IntKind.wrap .u64 ((IntKind.wrap .u64 (BitVec.toNat ((BitVec.ofInt (IntKind.bits .u64) (Int.fdiv (IntKind.wrap .u64 ((IntKind.wrap .u64 (BitVec.toNat ((BitVec.ofInt (IntKind.bits .u64) (Int.fdiv a1_ (2 ^ (min (Int.toNat (1 : Int)) (IntKind.bits .u64))))) &&& (BitVec.ofInt (IntKind.bits .u64) (6148914691236517205 : Int))))) + (IntKind.wrap .u64 (BitVec.toNat ((BitVec.ofInt (IntKind.bits .u64) a1_) &&& (BitVec.ofInt (IntKind.bits .u64) (6148914691236517205 : Int))))))) (2 ^ (min (Int.toNat (2 : Int)) (IntKind.bits .u64))))) &&& (BitVec.ofInt (IntKind.bits .u64) (3689348814741910323 : Int))))) + (IntKind.wrap .u64 (BitVec.toNat ((BitVec.ofInt (IntKind.bits .u64) (IntKind.wrap .u64 ((IntKind.wrap .u64 (BitVec.toNat ((BitVec.ofInt (IntKind.bits .u64) (Int.fdiv a1_ (2 ^ (min (Int.toNat (1 : Int)) (IntKind.bits .u64))))) &&& (BitVec.ofInt (IntKind.bits .u64) (6148914691236517205 : Int))))) + (IntKind.wrap .u64 (BitVec.toNat ((BitVec.ofInt (IntKind.bits .u64) a1_) &&& (BitVec.ofInt (IntKind.bits .u64) (6148914691236517205 : Int)))))))) &&& (BitVec.ofInt (IntKind.bits .u64) (3689348814741910323 : Int)))))))))) &&& (BitVec.ofInt (IntKind.bits .u64) (1085102592571150095 : Int))))) + (Int.fdiv (IntKind.wrap .u64 (BitVec.toNat ((BitVec.ofInt (IntKind.bits .u64) (IntKind.wrap .u64 ((Int.fdiv (IntKind.wrap .u64 ((IntKind.wrap .u64 (BitVec.toNat ((BitVec.ofInt (IntKind.bits .u64) (Int.fdiv (IntKind.wrap .u64 ((IntKind.wrap .u64 (BitVec.toNat ((BitVec.ofInt (IntKind.bits .u64) (Int.fdiv a1_ (2 ^ (min (Int.toNat (1 : Int)) (IntKind.bits .u64))))) &&& (BitVec.ofInt (IntKind.bits .u64) (6148914691236517205 : Int))))) + (IntKind.wrap .u64 (BitVec.toNat ((BitVec.ofInt (IntKind.bits .u64) a1_) &&& (BitVec.ofInt (IntKind.bits .u64) (6148914691236517205 : Int))))))) (2 ^ (min (Int.toNat (2 : Int)) (IntKind.bits .u64))))) &&& (BitVec.ofInt (IntKind.bits .u64) (3689348814741910323 : Int))))) + (IntKind.wrap .u64 (BitVec.toNat ((BitVec.ofInt (IntKind.bits .u64) (IntKind.wrap .u64 ((IntKind.wrap .u64 (BitVec.toNat ((BitVec.ofInt (IntKind.bits .u64) (Int.fdiv a1_ (2 ^ (min (Int.toNat (1 : Int)) (IntKind.bits .u64))))) &&& (BitVec.ofInt (IntKind.bits .u64) (6148914691236517205 : Int))))) + (IntKind.wrap .u64 (BitVec.toNat ((BitVec.ofInt (IntKind.bits .u64) a1_) &&& (BitVec.ofInt (IntKind.bits .u64) (6148914691236517205 : Int)))))))) &&& (BitVec.ofInt (IntKind.bits .u64) (3689348814741910323 : Int))))))) (2 ^ (min (Int.toNat (4 : Int)) (IntKind.bits .u64)))) + (IntKind.wrap .u64 ((IntKind.wrap .u64 (BitVec.toNat ((BitVec.ofInt (IntKind.bits .u64) (Int.fdiv (IntKind.wrap .u64 ((IntKind.wrap .u64 (BitVec.toNat ((BitVec.ofInt (IntKind.bits .u64) (Int.fdiv a1_ (2 ^ (min (Int.toNat (1 : Int)) (IntKind.bits .u64))))) &&& (BitVec.ofInt (IntKind.bits .u64) (6148914691236517205 : Int))))) + (IntKind.wrap .u64 (BitVec.toNat ((BitVec.ofInt (IntKind.bits .u64) a1_) &&& (BitVec.ofInt (IntKind.bits .u64) (6148914691236517205 : Int))))))) (2 ^ (min (Int.toNat (2 : Int)) (IntKind.bits .u64))))) &&& (BitVec.ofInt (IntKind.bits .u64) (3689348814741910323 : Int))))) + (IntKind.wrap .u64 (BitVec.toNat ((BitVec.ofInt (IntKind.bits .u64) (IntKind.wrap .u64 ((IntKind.wrap .u64 (BitVec.toNat ((BitVec.ofInt (IntKind.bits .u64) (Int.fdiv a1_ (2 ^ (min (Int.toNat (1 : Int)) (IntKind.bits .u64))))) &&& (BitVec.ofInt (IntKind.bits .u64) (6148914691236517205 : Int))))) + (IntKind.wrap .u64 (BitVec.toNat ((BitVec.ofInt (IntKind.bits .u64) a1_) &&& (BitVec.ofInt (IntKind.bits .u64) (6148914691236517205 : Int)))))))) &&& (BitVec.ofInt (IntKind.bits .u64) (3689348814741910323 : Int)))))))))) &&& (BitVec.ofInt (IntKind.bits .u64) (1085102592571150095 : Int))))) (2 ^ (min (Int.toNat (8 : Int)) (IntKind.bits .u64)))))) + (Int.fdiv (IntKind.wrap .u64 ((IntKind.wrap .u64 (BitVec.toNat ((BitVec.ofInt (IntKind.bits .u64) (IntKind.wrap .u64 ((Int.fdiv (IntKind.wrap .u64 ((IntKind.wrap .u64 (BitVec.toNat ((BitVec.ofInt (IntKind.bits .u64) (Int.fdiv (IntKind.wrap .u64 ((IntKind.wrap .u64 (BitVec.toNat ((BitVec.ofInt (IntKind.bits .u64) (Int.fdiv a1_ (2 ^ (min (Int.toNat (1 : Int)) (IntKind.bits .u64))))) &&& (BitVec.ofInt (IntKind.bits .u64) (6148914691236517205 : Int))))) + (IntKind.wrap .u64 (BitVec.toNat ((BitVec.ofInt (IntKind.bits .u64) a1_) &&& (BitVec.ofInt (IntKind.bits .u64) (6148914691236517205 : Int))))))) (2 ^ (min (Int.toNat (2 : Int)) (IntKind.bits .u64))))) &&& (BitVec.ofInt (IntKind.bits .u64) (3689348814741910323 : Int))))) + (IntKind.wrap .u64 (BitVec.toNat ((BitVec.ofInt (IntKind.bits .u64) (IntKind.wrap .u64 ((IntKind.wrap .u64 (BitVec.toNat ((BitVec.ofInt (IntKind.bits .u64) (Int.fdiv a1_ (2 ^ (min (Int.toNat (1 : Int)) (IntKind.bits .u64))))) &&& (BitVec.ofInt (IntKind.bits .u64) (6148914691236517205 : Int))))) + (IntKind.wrap .u64 (BitVec.toNat ((BitVec.ofInt (IntKind.bits .u64) a1_) &&& (BitVec.ofInt (IntKind.bits .u64) (6148914691236517205 : Int)))))))) &&& (BitVec.ofInt (IntKind.bits .u64) (3689348814741910323 : Int))))))) (2 ^ (min (Int.toNat (4 : Int)) (IntKind.bits .u64)))) + (IntKind.wrap .u64 ((IntKind.wrap .u64 (BitVec.toNat ((BitVec.ofInt (IntKind.bits .u64) (Int.fdiv (IntKind.wrap .u64 ((IntKind.wrap .u64 (BitVec.toNat ((BitVec.ofInt (IntKind.bits .u64) (Int.fdiv a1_ (2 ^ (min (Int.toNat (1 : Int)) (IntKind.bits .u64))))) &&& (BitVec.ofInt (IntKind.bits .u64) (6148914691236517205 : Int))))) + (IntKind.wrap .u64 (BitVec.toNat ((BitVec.ofInt (IntKind.bits .u64) a1_) &&& (BitVec.ofInt (IntKind.bits .u64) (6148914691236517205 : Int))))))) (2 ^ (min (Int.toNat (2 : Int)) (IntKind.bits .u64))))) &&& (BitVec.ofInt (IntKind.bits .u64) (3689348814741910323 : Int))))) + (IntKind.wrap .u64 (BitVec.toNat ((BitVec.ofInt (IntKind.bits .u64) (IntKind.wrap .u64 ((IntKind.wrap .u64 (BitVec.toNat ((BitVec.ofInt (IntKind.bits .u64) (Int.fdiv a1_ (2 ^ (min (Int.toNat (1 : Int)) (IntKind.bits .u64))))) &&& (BitVec.ofInt (IntKind.bits .u64) (6148914691236517205 : Int))))) + (IntKind.wrap .u64 (BitVec.toNat ((BitVec.ofInt (IntKind.bits .u64) a1_) &&& (BitVec.ofInt (IntKind.bits .u64) (6148914691236517205 : Int)))))))) &&& (BitVec.ofInt (IntKind.bits .u64) (3689348814741910323 : Int)))))))))) &&& (BitVec.ofInt (IntKind.bits .u64) (1085102592571150095 : Int))))) + (Int.fdiv (IntKind.wrap .u64 (BitVec.toNat ((BitVec.ofInt (IntKind.bits .u64) (IntKind.wrap .u64 ((Int.fdiv (IntKind.wrap .u64 ((IntKind.wrap .u64 (BitVec.toNat ((BitVec.ofInt (IntKind.bits .u64) (Int.fdiv (IntKind.wrap .u64 ((IntKind.wrap .u64 (BitVec.toNat ((BitVec.ofInt (IntKind.bits .u64) (Int.fdiv a1_ (2 ^ (min (Int.toNat (1 : Int)) (IntKind.bits .u64))))) &&& (BitVec.ofInt (IntKind.bits .u64) (6148914691236517205 : Int))))) + (IntKind.wrap .u64 (BitVec.toNat ((BitVec.ofInt (IntKind.bits .u64) a1_) &&& (BitVec.ofInt (IntKind.bits .u64) (6148914691236517205 : Int))))))) (2 ^ (min (Int.toNat (2 : Int)) (IntKind.bits .u64))))) &&& (BitVec.ofInt (IntKind.bits .u64) (3689348814741910323 : Int))))) + (IntKind.wrap .u64 (BitVec.toNat ((BitVec.ofInt (IntKind.bits .u64) (IntKind.wrap .u64 ((IntKind.wrap .u64 (BitVec.toNat ((BitVec.ofInt (IntKind.bits .u64) (Int.fdiv a1_ (2 ^ (min (Int.toNat (1 : Int)) (IntKind.bits .u64))))) &&& (BitVec.ofInt (IntKind.bits .u64) (6148914691236517205 : Int))))) + (IntKind.wrap .u64 (BitVec.toNat ((BitVec.ofInt (IntKind.bits .u64) a1_) &&& (BitVec.ofInt (IntKind.bits .u64) (6148914691236517205 : Int)))))))) &&& (BitVec.ofInt (IntKind.bits .u64) (3689348814741910323 : Int))))))) (2 ^ (min (Int.toNat (4 : Int)) (IntKind.bits .u64)))) + (IntKind.wrap .u64 ((IntKind.wrap .u64 (BitVec.toNat ((BitVec.ofInt (IntKind.bits .u64) (Int.fdiv (IntKind.wrap .u64 ((IntKind.wrap .u64 (BitVec.toNat ((BitVec.ofInt (IntKind.bits .u64) (Int.fdiv a1_ (2 ^ (min (Int.toNat (1 : Int)) (IntKind.bits .u64))))) &&& (BitVec.ofInt (IntKind.bits .u64) (6148914691236517205 : Int))))) + (IntKind.wrap .u64 (BitVec.toNat ((BitVec.ofInt (IntKind.bits .u64) a1_) &&& (BitVec.ofInt (IntKind.bits .u64) (6148914691236517205 : Int))))))) (2 ^ (min (Int.toNat (2 : Int)) (IntKind.bits .u64))))) &&& (BitVec.ofInt (IntKind.bits .u64) (3689348814741910323 : Int))))) + (IntKind.wrap .u64 (BitVec.toNat ((BitVec.ofInt (IntKind.bits .u64) (IntKind.wrap .u64 ((IntKind.wrap .u64 (BitVec.toNat ((BitVec.ofInt (IntKind.bits .u64) (Int.fdiv a1_ (2 ^ (min (Int.toNat (1 : Int)) (IntKind.bits .u64))))) &&& (BitVec.ofInt (IntKind.bits .u64) (6148914691236517205 : Int))))) + (IntKind.wrap .u64 (BitVec.toNat ((BitVec.ofInt (IntKind.bits .u64) a1_) &&& (BitVec.ofInt (IntKind.bits .u64) (6148914691236517205 : Int)))))))) &&& (BitVec.ofInt (IntKind.bits .u64) (3689348814741910323 : Int)))))))))) &&& (BitVec.ofInt (IntKind.bits .u64) (1085102592571150095 : Int))))) (2 ^ (min (Int.toNat (8 : Int)) (IntKind.bits .u64)))))) (2 ^ (min (Int.toNat (16 : Int)) (IntKind.bits .u64)))))) (2 ^ (min (Int.toNat (32 : Int)) (IntKind.bits .u64)))))))) &&& (BitVec.ofInt (IntKind.bits .i64) (127 : Int)))))
noncomputable def F_math_bits_OnesCount64 (a1_ : Int) : Option (Int) := (T_math_bits_OnesCount64 a1_).ev
noncomputable def A_math_bits_OnesCount64 : Sh := (.cons (.dat (.int .u64)) .nil)
noncomputable def I_math_bits_OnesCount64 : List (Nat × OSh) := []
noncomputable def K_math_bits_OnesCount64 : RetK := { acts := [], res := [.tmp 2], sh := (.cons (.dat (.int .i64)) .nil), obs := [], pins := [] }
noncomputable def D_math_bits_OnesCount64 : FD where
  A := A_math_bits_OnesCount64
  ins := I_math_bits_OnesCount64
  lend := []
  R := Int
  F := fun x => F_math_bits_OnesCount64 x.1.1
  emb := fun r => ([.dat (.int .i64) r], [])
noncomputable def E_math_bits_OnesCount64 : Env := envOf []
noncomputable def Z_math_bits_OnesCount64 : Nat → Nat → List Nat := fun _ _ => []
noncomputable def O_math_bits_OnesCount64 : List (Nat × LD) := []
noncomputable def C_math_bits_OnesCount64 : Code := (f188.body).getD .skip
noncomputable def T_math_bits_OnesCount (a1_ : Int) : Tr (Int) :=
  .c (Int) (F_math_bits_OnesCount64 a1_) fun r1_ =>
  .l r1_
noncomputable def F_math_bits_OnesCount (a1_ : Int) : Option (Int) := (T_math_bits_OnesCount a1_).ev
noncomputable def A_math_bits_OnesCount : Sh := (.cons (.dat (.int .u64)) .nil)
noncomputable def I_math_bits_OnesCount : List (Nat × OSh) := []
noncomputable def K_math_bits_OnesCount : RetK := { acts := [], res := [.tmp 2], sh := (.cons (.dat (.int .i64)) .nil), obs := [], pins := [] }
noncomputable def D_math_bits_OnesCount : FD where
  A := A_math_bits_OnesCount
  ins := I_math_bits_OnesCount
  lend := []
  R := Int
  F := fun x => F_math_bits_OnesCount x.1.1
  emb := fun r => ([.dat (.int .i64) r], [])
noncomputable def E_math_bits_OnesCount : Env := envOf [(188, D_math_bits_OnesCount64)]
noncomputable def Z_math_bits_OnesCount : Nat → Nat → List Nat := fun _ _ => []
noncomputable def O_math_bits_OnesCount : List (Nat × LD) := []
noncomputable def C_math_bits_OnesCount : Code := (f147.body).getD .skip
noncomputable def T_im_bag_size (a1_ : Int) : Tr (Int) :=
  .c (Int) (F_math_bits_OnesCount a1_) fun r1_ =>
  .l r1_
noncomputable def F_im_bag_size (a1_ : Int) : Option (Int) := (T_im_bag_size a1_).ev
noncomputable def A_im_bag_size : Sh := (.cons (.dat (.int .u64)) .nil)
noncomputable def I_im_bag_size : List (Nat × OSh) := []
noncomputable def K_im_bag_size : RetK := { acts := [], res := [.tmp 2], sh := (.cons (.dat (.int .i64)) .nil), obs := [], pins := [] }
noncomputable def D_im_bag_size : FD where
  A := A_im_bag_size
  ins := I_im_bag_size
  lend := []
  R := Int
  F := fun x => F_im_bag_size x.1.1
  emb := fun r => ([.dat (.int .i64) r], [])
noncomputable def E_im_bag_size : Env := envOf [(147, D_math_bits_OnesCount)]
noncomputable def Z_im_bag_size : Nat → Nat → List Nat := fun _ _ => []
noncomputable def O_im_bag_size : List (Nat × LD) := []
noncomputable def C_im_bag_size : Code := (f91.body).getD .skip
noncomputable def F_slices_Clone_Sint_int (a1_ : List (Int)) : Option (List Int) := cloneF a1_
noncomputable def D_slices_Clone_Sint_int : FD := fdClone
noncomputable def S_im_BestHubs_1_0 (rec_ : (Int) → (Int) → (List (Int)) → (List (List (Int))) → Option ((Int) × ((Int) × ((List (Int)) × (List (List (Int))))))) (k : Int) (v : (Int) × ((Int) × ((Int) × ((List (Int)) × (List (List (Int))))))) : Tr (((Int) × ((Int) × ((Int) × ((List (Int)) × (List (List (Int))))))) ⊕ ((Int) × ((Int) × ((List (Int)) × (List (List (Int))))))) :=
  .t (decide (v.1 < k))
    (.g (decide ((List.length v.2.2.2.1 + List.length ([v.1] : List (Int))) * 8 ≤ 140737488355328)) <|
      .c ((Int) × ((Int) × ((List (Int)) × (List (List (Int)))))) (rec_ v.2.1 v.2.2.1 (v.2.2.2.1 ++ ([v.1] : List (Int))) v.2.2.2.2) fun r11_ =>
      .g (decide ((0 : Int) ≤ (IntKind.wrap .i64 (((List.length r11_.2.2.1 : Nat) : Int) - (1 : Int)))) && decide ((IntKind.wrap .i64 (((List.length r11_.2.2.1 : Nat) : Int) - (1 : Int))) ≤ ((List.length r11_.2.2.1 : Nat) : Int))) <|
      .l (.inl ((IntKind.wrap .i64 (v.1 + (1 : Int))), (r11_.1, (r11_.2.1, ((List.take (Int.toNat (IntKind.wrap .i64 (((List.length r11_.2.2.1 : Nat) : Int) - (1 : Int)))) r11_.2.2.1), r11_.2.2.2))))))
    (.l (.inr (v.2.1, (v.2.2.1, (v.2.2.2.1, v.2.2.2.2)))))
noncomputable def L_im_BestHubs_1_0 (rec_ : (Int) → (Int) → (List (Int)) → (List (List (Int))) → Option ((Int) × ((Int) × ((List (Int)) × (List (List (Int))))))) (k : Int) (v : (Int) × ((Int) × ((Int) × ((List (Int)) × (List (List (Int))))))) : Option ((Int) × ((Int) × ((List (Int)) × (List (List (Int)))))) := iter (fun v => (S_im_BestHubs_1_0 rec_ k v).ev) v
noncomputable def DL_im_BestHubs_1_0 (rec_ : (Int) → (Int) → (List (Int)) → (List (List (Int))) → Option ((Int) × ((Int) × ((List (Int)) × (List (List (Int))))))) : LD where
  head := { acts := [.drop 900640, .drop 900670, .ren 69 900640, .ren 70 900670, .ren 2176 900640, .ren 2177 900670], S := { slots := [0, 1, 2, 3, 4, 25, 26], sh := (.cons (.box 64 0) (.cons (.box 65 0) (.cons (.box 66 0) (.cons (.box 67 0) (.cons (.box 68 0) (.cons (.dat (.int .i64)) (.cons (.dat (.int .i64)) .nil))))))), obs := [(64, .cells (.cons (.arr 900640) .nil)), (65, .cells (.cons (.dat (.int .i64)) .nil)), (66, .cells (.cons (.dat (.int .i64)) .nil)), (67, .cells (.cons (.arr 900670) .nil)), (68, .cells (.cons (.fn 88 (.cons (.box 64 0) (.cons (.box 65 0) (.cons (.box 66 0) (.cons (.box 67 0) (.cons (.box 68 0) .nil)))))) .nil)), (900640, .arr 3 (.int .i64)), (900670, .rows 24 3 (.int .i64))] } }
  exits := [(0, { acts := [], S := { slots := [0, 1, 2, 3, 4], sh := (.cons (.box 64 0) (.cons (.box 65 0) (.cons (.box 66 0) (.cons (.box 67 0) (.cons (.box 68 0) .nil))))), obs := [(64, .cells (.cons (.arr 900640) .nil)), (65, .cells (.cons (.dat (.int .i64)) .nil)), (66, .cells (.cons (.dat (.int .i64)) .nil)), (67, .cells (.cons (.arr 900670) .nil)), (68, .cells (.cons (.fn 88 (.cons (.box 64 0) (.cons (.box 65 0) (.cons (.box 66 0) (.cons (.box 67 0) (.cons (.box 68 0) .nil)))))) .nil)), (900640, .arr 3 (.int .i64)), (900670, .rows 24 3 (.int .i64))] } })]
  rets := { acts := [], S := { slots := [], sh := .nil, obs := [] } }
  K := Int
  V := (Int) × ((Int) × ((Int) × ((List (Int)) × (List (List (Int))))))
  R := (Int) × ((Int) × ((List (Int)) × (List (List (Int)))))
  join := fun k v => (((), ((), ((), ((), ((), (k, (v.1, ()))))))), (((), ()), ((v.2.1, ()), ((v.2.2.1, ()), (((), ()), ((((), ((), ((), ((), ((), ()))))), ()), (v.2.2.2.1, (v.2.2.2.2, ()))))))))
  sk := fun t => t.1.2.2.2.2.2.1
  sv := fun t => (t.1.2.2.2.2.2.2.1, (t.2.2.1.1, (t.2.2.2.1.1, (t.2.2.2.2.2.2.1, t.2.2.2.2.2.2.2.1))))
  step := S_im_BestHubs_1_0 rec_
  leaf := fun _ r => .l (.exit 0 (mkSt ({ slots := [0, 1, 2, 3, 4], sh := (.cons (.box 64 0) (.cons (.box 65 0) (.cons (.box 66 0) (.cons (.box 67 0) (.cons (.box 68 0) .nil))))), obs := [(64, .cells (.cons (.arr 900640) .nil)), (65, .cells (.cons (.dat (.int .i64)) .nil)), (66, .cells (.cons (.dat (.int .i64)) .nil)), (67, .cells (.cons (.arr 900670) .nil)), (68, .cells (.cons (.fn 88 (.cons (.box 64 0) (.cons (.box 65 0) (.cons (.box 66 0) (.cons (.box 67 0) (.cons (.box 68 0) .nil)))))) .nil)), (900640, .arr 3 (.int .i64)), (900670, .rows 24 3 (.int .i64))] }) (((), ((), ((), ((), ((), ()))))), (((), ()), ((r.1, ()), ((r.2.1, ()), (((), ()), ((((), ((), ((), ((), ((), ()))))), ()), (r.2.2.1, (r.2.2.2, ()))))))))))
noncomputable def T_im_BestHubs_1 (rec_ : (Int) → (Int) → (List (Int)) → (List (List (Int))) → Option ((Int) × ((Int) × ((List (Int)) × (List (List (Int))))))) (a2_ : Int) (a3_ : Int) (a1_ : List (Int)) (a4_ : List (List (Int))) : Tr ((Int) × ((Int) × ((List (Int)) × (List (List (Int)))))) :=
  .t (((List.length a1_ : Nat) : Int) == a2_)
    (.c (Bool) (F_im_isAllocation a2_ a1_) fun r1_ =>
      .t r1_
        (.c (Int) (F_im_bagOf a1_) fun r2_ =>
          .c (Int) (F_im_bag_size r2_) fun r3_ =>
          .t (decide (r3_ ≤ a3_))
            (.c (List Int) (F_slices_Clone_Sint_int a1_) fun r4_ =>
              .g (decide ((List.length a4_ + 1) * 24 ≤ 140737488355328)) <|
              .l (a2_, (a3_, (a1_, (List.set (a4_ ++ [[]]) (List.length a4_) r4_)))))
            (.l (a2_, (a3_, (a1_, a4_)))))
        (.l (a2_, (a3_, (a1_, a4_)))))
    (.c ((Int) × ((Int) × ((List (Int)) × (List (List (Int)))))) (L_im_BestHubs_1_0 rec_ a2_ ((0 : Int), (a2_, (a3_, (a1_, a4_))))) fun r16_ =>
      .l (r16_.1, (r16_.2.1, (r16_.2.2.1, r16_.2.2.2))))
noncomputable def F_im_BestHubs_1 : Nat → (Int) → (Int) → (List (Int)) → (List (List (Int))) → Option ((Int) × ((Int) × ((List (Int)) × (List (List (Int))))))
  | 0 => fun _ _ _ _ => none
  | n + 1 => fun a2_ a3_ a1_ a4_ => (T_im_BestHubs_1 (F_im_BestHubs_1 n) a2_ a3_ a1_ a4_).ev
noncomputable def A_im_BestHubs_1 : Sh := (.cons (.box 64 0) (.cons (.box 65 0) (.cons (.box 66 0) (.cons (.box 67 0) (.cons (.box 68 0) .nil)))))
noncomputable def I_im_BestHubs_1 : List (Nat × OSh) := [(64, .cells (.cons (.arr 69) .nil)), (65, .cells (.cons (.dat (.int .i64)) .nil)), (66, .cells (.cons (.dat (.int .i64)) .nil)), (67, .cells (.cons (.arr 70) .nil)), (68, .cells (.cons (.fn 88 (.cons (.box 64 0) (.cons (.box 65 0) (.cons (.box 66 0) (.cons (.box 67 0) (.cons (.box 68 0) .nil)))))) .nil)), (69, .arr 3 (.int .i64)), (70, .rows 24 3 (.int .i64))]
noncomputable def K_im_BestHubs_1 : RetK := { acts := [.ren 900640 0, .ren 900670 1, .ren 69 0, .ren 70 1], res := [], sh := .nil, obs := [(64, .cells (.cons (.arr 0) .nil)), (65, .cells (.cons (.dat (.int .i64)) .nil)), (66, .cells (.cons (.dat (.int .i64)) .nil)), (67, .cells (.cons (.arr 1) .nil)), (68, .cells (.cons (.fn 88 (.cons (.box 64 0) (.cons (.box 65 0) (.cons (.box 66 0) (.cons (.box 67 0) (.cons (.box 68 0) .nil)))))) .nil)), (0, .arr 3 (.int .i64)), (1, .rows 24 3 (.int .i64))], pins := [(0, 0, 64), (1, 0, 65), (2, 0, 66), (3, 0, 67), (4, 0, 68)], gone := [69, 70] }
noncomputable def Dr_im_BestHubs_1 (rec_ : (Int) → (Int) → (List (Int)) → (List (List (Int))) → Option ((Int) × ((Int) × ((List (Int)) × (List (List (Int))))))) : FD where
  A := A_im_BestHubs_1
  ins := I_im_BestHubs_1
  lend := [.arg 0, .arg 1, .arg 2, .arg 3, .arg 4, .cell 0 0, .cell 3 0]
  R := (Int) × ((Int) × ((List (Int)) × (List (List (Int)))))
  F := fun x => rec_ x.2.2.1.1 x.2.2.2.1.1 x.2.2.2.2.2.2.1 x.2.2.2.2.2.2.2.1
  emb := fun r => ([], [(64, .cells [.arr 0]), (65, .cells [.dat (.int .i64) r.1]), (66, .cells [.dat (.int .i64) r.2.1]), (67, .cells [.arr 1]), (68, .cells [.fn 88 [.box 64 0, .box 65 0, .box 66 0, .box 67 0, .box 68 0]]), (0, .arr 3 (.int .i64) r.2.2.1), (1, .rows 24 3 (.int .i64) r.2.2.2 none), (69, .spent), (70, .spent)])
noncomputable def D_im_BestHubs_1 (n : Nat) : FD := Dr_im_BestHubs_1 (F_im_BestHubs_1 n)
noncomputable def E_im_BestHubs_1 (rec_ : (Int) → (Int) → (List (Int)) → (List (List (Int))) → Option ((Int) × ((Int) × ((List (Int)) × (List (List (Int))))))) : Env := envOf [(89, D_im_isAllocation), (90, D_im_bagOf), (91, D_im_bag_size), (92, D_slices_Clone_Sint_int), (88, Dr_im_BestHubs_1 rec_)]
noncomputable def Z_im_BestHubs_1 : Nat → Nat → List Nat := fun _ _ => []
noncomputable def O_im_BestHubs_1 (rec_ : (Int) → (Int) → (List (Int)) → (List (List (Int))) → Option ((Int) × ((Int) × ((List (Int)) × (List (List (Int))))))) : List (Nat × LD) := [(0, DL_im_BestHubs_1_0 rec_)]
noncomputable def C_im_BestHubs_1 : Code := (f88.body).getD .skip
noncomputable def S_im_least_0 (k : ((HL [(.slice (.int .i64))] → Option (Int))) × ((Int) × ((List Nat) × (List (List (Int)))))) (v : (Nat) × (Int)) : Tr (((Nat) × (Int)) ⊕ (Nat)) :=
  .t (decide (v.2 < k.2.1))
    (.g (inR v.2 (List.length k.2.2.1)) <|
      .g (decide ((Int.toNat v.2) < List.length k.2.2.1) && decide ((List.getD k.2.2.1 (Int.toNat v.2) 0) < List.length k.2.2.2)) <|
      .c (Int) (k.1 ((List.getD k.2.2.2 (List.getD k.2.2.1 (Int.toNat v.2) 0) ([] : List (Int))), ())) fun r6_ =>
      .c (Int) (k.1 ((List.getD k.2.2.2 v.1 ([] : List (Int))), ())) fun r7_ =>
      .t (decide (r6_ < r7_))
        (.l (.inl ((List.getD k.2.2.1 (Int.toNat v.2) 0), (IntKind.wrap .i64 (v.2 + (1 : Int))))))
        (.l (.inl (v.1, (IntKind.wrap .i64 (v.2 + (1 : Int)))))))
    (.l (.inr v.1))
noncomputable def L_im_least_0 (k : ((HL [(.slice (.int .i64))] → Option (Int))) × ((Int) × ((List Nat) × (List (List (Int)))))) (v : (Nat) × (Int)) : Option (Nat) := iter (fun v => (S_im_least_0 k v).ev) v
noncomputable def DL_im_least_0 : LD where
  head := { acts := [], S := { slots := [0, 1, 5, 11, 12, 13], sh := (.cons (.arr 64) (.cons (.clo [(.slice (.int .i64))] (.int .i64)) (.cons (.row 64) (.cons (.arr 64) (.cons (.dat (.int .i64)) (.cons (.dat (.int .i64)) .nil)))))), obs := [(64, .perm 24 3 (.int .i64))] } }
  exits := [(0, { acts := [], S := { slots := [0, 5], sh := (.cons (.arr 64) (.cons (.row 64) .nil)), obs := [(64, .perm 24 3 (.int .i64))] } })]
  rets := { acts := [], S := { slots := [], sh := .nil, obs := [] } }
  K := ((HL [(.slice (.int .i64))] → Option (Int))) × ((Int) × ((List Nat) × (List (List (Int)))))
  V := (Nat) × (Int)
  R := Nat
  join := fun k v => (((), (k.1, (v.1, ((), (k.2.1, (v.2, ())))))), (k.2.2, ()))
  sk := fun t => (t.1.2.1, (t.1.2.2.2.2.1, t.2.1))
  sv := fun t => (t.1.2.2.1, t.1.2.2.2.2.2.1)
  step := S_im_least_0
  leaf := fun k r => .l (.exit 0 (mkSt ({ slots := [0, 5], sh := (.cons (.arr 64) (.cons (.row 64) .nil)), obs := [(64, .perm 24 3 (.int .i64))] }) (((), (r, ())), (k.2.2, ()))))
noncomputable def T_im_least (a2_ : (HL [(.slice (.int .i64))] → Option (Int))) (a1_ : (List Nat) × (List (List (Int)))) : Tr (List (Int)) :=
  .g (inR (0 : Int) (List.length a1_.1)) <|
  .g (decide ((Int.toNat (0 : Int)) < List.length a1_.1) && decide ((List.getD a1_.1 (Int.toNat (0 : Int)) 0) < List.length a1_.2)) <|
  .c (Nat) (L_im_least_0 (a2_, (((List.length a1_.1 : Nat) : Int), a1_)) ((List.getD a1_.1 (Int.toNat (0 : Int)) 0), (0 : Int))) fun r10_ =>
  .l (List.getD a1_.2 r10_ ([] : List (Int)))
noncomputable def F_im_least (a2_ : (HL [(.slice (.int .i64))] → Option (Int))) (a1_ : (List Nat) × (List (List (Int)))) : Option (List (Int)) := (T_im_least a2_ a1_).ev
noncomputable def A_im_least : Sh := (.cons (.arr 64) (.cons (.clo [(.slice (.int .i64))] (.int .i64)) .nil))
noncomputable def I_im_least : List (Nat × OSh) := [(64, .perm 24 3 (.int .i64))]
noncomputable def K_im_least : RetK := { acts := [.pull 4 800000, .ren 800000 0], res := [.tmp 4], sh := (.cons (.arr 0) .nil), obs := [(0, .arr 3 (.int .i64))], pins := [], gone := [64] }
noncomputable def D_im_least : FD where
  A := A_im_least
  ins := I_im_least
  lend := [.arg 0]
  R := List (Int)
  F := fun x => F_im_least x.1.2.1 x.2.1
  emb := fun r => ([.arr 0], [(0, .arr 3 (.int .i64) r), (64, .spent)])
noncomputable def E_im_least : Env := envOf []
noncomputable def Z_im_least : Nat → Nat → List Nat := fun _ _ => []
noncomputable def O_im_least : List (Nat × LD) := [(0, DL_im_least_0)]
noncomputable def C_im_least : Code := (f68.body).getD .skip
noncomputable def T_im_BestHubs_2 (a1_ : List (Int)) (a2_ : List (List (Int))) (a3_ : List (List (Int))) (a4_ : Int) : Tr (Int) :=
  .c (Int) (F_im_hubCost a2_ a3_ a1_ a4_) fun r1_ =>
  .l r1_
noncomputable def F_im_BestHubs_2 (a1_ : List (Int)) (a2_ : List (List (Int))) (a3_ : List (List (Int))) (a4_ : Int) : Option (Int) := (T_im_BestHubs_2 a1_ a2_ a3_ a4_).ev
noncomputable def A_im_BestHubs_2 : Sh := (.cons (.dat (.slice (.int .i64))) (.cons (.ptr (.cons (.dat (.slice (.slice (.int .i64)))) .nil)) (.cons (.ptr (.cons (.dat (.slice (.slice (.int .i64)))) .nil)) (.cons (.ptr (.cons (.dat (.int .i64)) .nil)) .nil))))
noncomputable def I_im_BestHubs_2 : List (Nat × OSh) := []
noncomputable def K_im_BestHubs_2 : RetK := { acts := [], res := [.tmp 5], sh := (.cons (.dat (.int .i64)) .nil), obs := [], pins := [] }
noncomputable def D_im_BestHubs_2 : FD where
  A := A_im_BestHubs_2
  ins := I_im_BestHubs_2
  lend := []
  R := Int
  F := fun x => F_im_BestHubs_2 x.1.1 x.1.2.1.1 x.1.2.2.1.1 x.1.2.2.2.1.1
  emb := fun r => ([.dat (.int .i64) r], [])
noncomputable def E_im_BestHubs_2 : Env := envOf [(94, D_im_hubCost)]
noncomputable def Z_im_BestHubs_2 : Nat → Nat → List Nat := fun _ _ => []
noncomputable def O_im_BestHubs_2 : List (Nat × LD) := []
noncomputable def C_im_BestHubs_2 : Code := (f93.body).getD .skip
noncomputable def T_im_BestHubs (a1_ : List (List (Int))) (a2_ : List (List (Int))) (a3_ : Int) (a4_ : Int) : Tr ((Bool) × (List (Int))) :=
  .c (Bool) (F_im_isNet a1_) fun r1_ =>
  .t (!r1_)
    (.l (false, ([] : List (Int))))
    (.c (Bool) (F_im_areFlows a1_ a2_) fun r2_ =>
      .t (!r2_)
        (.l (false, ([] : List (Int))))
        (.c (Bool) (F_im_between a3_ (1 : Int) (5 : Int)) fun r3_ =>
          .t (!r3_)
            (.l (false, ([] : List (Int))))
            (.c (Bool) (F_im_between a4_ (0 : Int) (10 : Int)) fun r4_ =>
              .t (!r4_)
                (.l (false, ([] : List (Int))))
                (.c ((Int) × ((Int) × ((List (Int)) × (List (List (Int)))))) (F_im_BestHubs_1 1000000 ((List.length a1_ : Nat) : Int) a3_ ([] : List (Int)) ([] : List (List (Int)))) fun r5_ =>
                  .c (List (Int)) (F_im_least (fun h6_ => Option.bind (F_im_BestHubs_2 h6_.1 a1_ a2_ a4_) fun y7_ => some y7_) ((List.range (List.length r5_.2.2.2)), r5_.2.2.2)) fun r8_ =>
                  .l (true, r8_)))))
noncomputable def F_im_BestHubs (a1_ : List (List (Int))) (a2_ : List (List (Int))) (a3_ : Int) (a4_ : Int) : Option ((Bool) × (List (Int))) := (T_im_BestHubs a1_ a2_ a3_ a4_).ev
noncomputable def A_im_BestHubs : Sh := (.cons (.dat (.slice (.slice (.int .i64)))) (.cons (.dat (.slice (.slice (.int .i64)))) (.cons (.dat (.int .i64)) (.cons (.dat (.int .i64)) .nil))))
noncomputable def I_im_BestHubs : List (Nat × OSh) := []
noncomputable def K_im_BestHubs : RetK := { acts := [.own 8 0 3 (.int .i64), .ren 2688 0], res := [.tmp 8, .tmp 9], sh := (.cons (.arr 0) (.cons (.dat .bool) .nil)), obs := [(0, .arr 3 (.int .i64))], pins := [] }
noncomputable def D_im_BestHubs : FD where
  A := A_im_BestHubs
  ins := I_im_BestHubs
  lend := []
  R := (Bool) × (List (Int))
  F := fun x => F_im_BestHubs x.1.1 x.1.2.1 x.1.2.2.1 x.1.2.2.2.1
  emb := fun r => ([.arr 0, .dat .bool r.1], [(0, .arr 3 (.int .i64) r.2)])
noncomputable def E_im_BestHubs : Env := envOf [(86, D_im_isNet), (87, D_im_areFlows), (67, D_im_between), (88, D_im_BestHubs_1 1000000), (68, D_im_least), (68, D_im_least), (93, D_im_BestHubs_2)]
noncomputable def Z_im_BestHubs : Nat → Nat → List Nat := fun r i => match look [(3, [(2, [1000000])]), (7, [(2, [80000040])])] r with
  | some l => (look l i).getD []
  | none => []
noncomputable def O_im_BestHubs : List (Nat × LD) := []
noncomputable def C_im_BestHubs : Code := (f31.body).getD .skip
noncomputable def T_sp_l1Own (a1_ : List (Int)) : Tr (List (Int)) :=
  .g (decide ((List.length ([] : List (Int)) + List.length a1_) * 8 ≤ 140737488355328)) <|
  .l (([] : List (Int)) ++ a1_)
noncomputable def F_sp_l1Own (a1_ : List (Int)) : Option (List (Int)) := (T_sp_l1Own a1_).ev
noncomputable def A_sp_l1Own : Sh := (.cons (.dat (.slice (.int .i64))) .nil)
noncomputable def I_sp_l1Own : List (Nat × OSh) := []
noncomputable def K_sp_l1Own : RetK := { acts := [.ren 3 0], res := [.tmp 2], sh := (.cons (.arr 0) .nil), obs := [(0, .arr 3 (.int .i64))], pins := [] }
noncomputable def D_sp_l1Own : FD where
  A := A_sp_l1Own
  ins := I_sp_l1Own
  lend := []
  R := List (Int)
  F := fun x => F_sp_l1Own x.1.1
  emb := fun r => ([.arr 0], [(0, .arr 3 (.int .i64) r)])
noncomputable def E_sp_l1Own : Env := envOf []
noncomputable def Z_sp_l1Own : Nat → Nat → List Nat := fun _ _ => []
noncomputable def O_sp_l1Own : List (Nat × LD) := []
noncomputable def C_sp_l1Own : Code := (f142.body).getD .skip
noncomputable def S_sp_l1Put_0 (k : (List (Int)) × (Int)) (v : Int) : Tr ((Int) ⊕ (Int)) :=
  .t (decide (v < ((List.length k.1 : Nat) : Int)))
    (.g (inR v (List.length k.1)) <|
      .t (decide ((List.getD k.1 (Int.toNat v) (0 : Int)) < k.2))
        (.l (.inl (IntKind.wrap .i64 (v + (1 : Int)))))
        (.l (.inr v)))
    (.l (.inr v))
noncomputable def L_sp_l1Put_0 (k : (List (Int)) × (Int)) (v : Int) : Option (Int) := iter (fun v => (S_sp_l1Put_0 k v).ev) v
noncomputable def DL_sp_l1Put_0 : LD where
  head := { acts := [], S := { slots := [0, 1, 5], sh := (.cons (.dat (.slice (.int .i64))) (.cons (.dat (.int .i64)) (.cons (.dat (.int .i64)) .nil))), obs := [] } }
  exits := [(0, { acts := [], S := { slots := [0, 1, 5], sh := (.cons (.dat (.slice (.int .i64))) (.cons (.dat (.int .i64)) (.cons (.dat (.int .i64)) .nil))), obs := [] } })]
  rets := { acts := [], S := { slots := [], sh := .nil, obs := [] } }
  K := (List (Int)) × (Int)
  V := Int
  R := Int
  join := fun k v => ((k.1, (k.2, (v, ()))), ())
  sk := fun t => (t.1.1, t.1.2.1)
  sv := fun t => t.1.2.2.1
  step := S_sp_l1Put_0
  leaf := fun k r => .l (.exit 0 (mkSt ({ slots := [0, 1, 5], sh := (.cons (.dat (.slice (.int .i64))) (.cons (.dat (.int .i64)) (.cons (.dat (.int .i64)) .nil))), obs := [] }) ((k.1, (k.2, (r, ()))), ())))
noncomputable def T_sp_l1Put (a1_ : List (Int)) (a2_ : Int) : Tr (List (Int)) :=
  .c (Int) (L_sp_l1Put_0 (a1_, a2_) (0 : Int)) fun r7_ =>
  .t (decide (r7_ < ((List.length a1_ : Nat) : Int)))
    (.g (inR r7_ (List.length a1_)) <|
      .t ((List.getD a1_ (Int.toNat r7_) (0 : Int)) == a2_)
        (.l a1_)
        (.g (decide ((0 : Int) ≤ r7_) && decide (r7_ ≤ ((List.length a1_ : Nat) : Int))) <|
          .g (decide ((List.length ([] : List (Int)) + List.length (List.drop 0 (List.take (Int.toNat r7_) a1_))) * 8 ≤ 140737488355328)) <|
          .g (decide ((List.length (([] : List (Int)) ++ (List.drop 0 (List.take (Int.toNat r7_) a1_))) + List.length ([a2_] : List (Int))) * 8 ≤ 140737488355328)) <|
          .g (decide ((0 : Int) ≤ r7_) && decide (r7_ ≤ ((List.length a1_ : Nat) : Int))) <|
          .g (decide ((List.length ((([] : List (Int)) ++ (List.drop 0 (List.take (Int.toNat r7_) a1_))) ++ ([a2_] : List (Int))) + List.length (List.drop (Int.toNat r7_) (List.take (List.length a1_) a1_))) * 8 ≤ 140737488355328)) <|
          .l (((([] : List (Int)) ++ (List.drop 0 (List.take (Int.toNat r7_) a1_))) ++ ([a2_] : List (Int))) ++ (List.drop (Int.toNat r7_) (List.take (List.length a1_) a1_)))))
    (.g (decide ((0 : Int) ≤ r7_) && decide (r7_ ≤ ((List.length a1_ : Nat) : Int))) <|
      .g (decide ((List.length ([] : List (Int)) + List.length (List.drop 0 (List.take (Int.toNat r7_) a1_))) * 8 ≤ 140737488355328)) <|
      .g (decide ((List.length (([] : List (Int)) ++ (List.drop 0 (List.take (Int.toNat r7_) a1_))) + List.length ([a2_] : List (Int))) * 8 ≤ 140737488355328)) <|
      .g (decide ((0 : Int) ≤ r7_) && decide (r7_ ≤ ((List.length a1_ : Nat) : Int))) <|
      .g (decide ((List.length ((([] : List (Int)) ++ (List.drop 0 (List.take (Int.toNat r7_) a1_))) ++ ([a2_] : List (Int))) + List.length (List.drop (Int.toNat r7_) (List.take (List.length a1_) a1_))) * 8 ≤ 140737488355328)) <|
      .l (((([] : List (Int)) ++ (List.drop 0 (List.take (Int.toNat r7_) a1_))) ++ ([a2_] : List (Int))) ++ (List.drop (Int.toNat r7_) (List.take (List.length a1_) a1_))))
noncomputable def F_sp_l1Put (a1_ : List (Int)) (a2_ : Int) : Option (List (Int)) := (T_sp_l1Put a1_ a2_).ev
noncomputable def A_sp_l1Put : Sh := (.cons (.dat (.slice (.int .i64))) (.cons (.dat (.int .i64)) .nil))
noncomputable def I_sp_l1Put : List (Nat × OSh) := []
noncomputable def K_sp_l1Put : RetK := { acts := [.fz 33], res := [.tmp 4], sh := (.cons (.dat (.slice (.int .i64))) .nil), obs := [], pins := [] }
noncomputable def D_sp_l1Put : FD where
  A := A_sp_l1Put
  ins := I_sp_l1Put
  lend := []
  R := List (Int)
  F := fun x => F_sp_l1Put x.1.1 x.1.2.1
  emb := fun r => ([.dat (.slice (.int .i64)) r], [])
noncomputable def E_sp_l1Put : Env := envOf []
noncomputable def Z_sp_l1Put : Nat → Nat → List Nat := fun _ _ => []
noncomputable def O_sp_l1Put : List (Nat × LD) := [(0, DL_sp_l1Put_0)]
noncomputable def C_sp_l1Put : Code := (f143.body).getD .skip
noncomputable def S_sp_l11Try_0 (rec_ : (List (List (Int))) → (List (List (Int))) → (Int) → (Int) → (List (Int)) → (List (Int)) → Option (List (Int))) (k : (List (List (Int))) × ((List (List (Int))) × ((Int) × ((Int) × (List (Int)))))) (v : (List (Int)) × (Int)) : Tr (((List (Int)) × (Int)) ⊕ (List (Int))) :=
  .t (decide (v.2 < ((List.length k.1 : Nat) : Int)))
    (.c (List (Int)) (F_sp_l1Own k.2.2.2.2) fun r8_ =>
      .g (decide ((List.length r8_ + List.length ([v.2] : List (Int))) * 8 ≤ 140737488355328)) <|
      .c (List (Int)) (rec_ k.1 k.2.1 k.2.2.1 k.2.2.2.1 (r8_ ++ ([v.2] : List (Int))) v.1) fun r9_ =>
      .l (.inl (r9_, (IntKind.wrap .i64 (v.2 + (1 : Int))))))
    (.l (.inr v.1))
noncomputable def L_sp_l11Try_0 (rec_ : (List (List (Int))) → (List (List (Int))) → (Int) → (Int) → (List (Int)) → (List (Int)) → Option (List (Int))) (k : (List (List (Int))) × ((List (List (Int))) × ((Int) × ((Int) × (List (Int)))))) (v : (List (Int)) × (Int)) : Option (List (Int)) := iter (fun v => (S_sp_l11Try_0 rec_ k v).ev) v
noncomputable def DL_sp_l11Try_0 (rec_ : (List (List (Int))) → (List (List (Int))) → (Int) → (Int) → (List (Int)) → (List (Int)) → Option (List (Int))) : LD where
  head := { acts := [], S := { slots := [0, 1, 2, 3, 4, 5, 13], sh := (.cons (.dat (.slice (.slice (.int .i64)))) (.cons (.dat (.slice (.slice (.int .i64)))) (.cons (.dat (.int .i64)) (.cons (.dat (.int .i64)) (.cons (.dat (.slice (.int .i64))) (.cons (.dat (.slice (.int .i64))) (.cons (.dat (.int .i64)) .nil))))))), obs := [] } }
  exits := [(0, { acts := [], S := { slots := [5], sh := (.cons (.dat (.slice (.int .i64))) .nil), obs := [] } })]
  rets := { acts := [], S := { slots := [], sh := .nil, obs := [] } }
  K := (List (List (Int))) × ((List (List (Int))) × ((Int) × ((Int) × (List (Int)))))
  V := (List (Int)) × (Int)
  R := List (Int)
  join := fun k v => ((k.1, (k.2.1, (k.2.2.1, (k.2.2.2.1, (k.2.2.2.2, (v.1, (v.2, ()))))))), ())
  sk := fun t => (t.1.1, (t.1.2.1, (t.1.2.2.1, (t.1.2.2.2.1, t.1.2.2.2.2.1))))
  sv := fun t => (t.1.2.2.2.2.2.1, t.1.2.2.2.2.2.2.1)
  step := S_sp_l11Try_0 rec_
  leaf := fun _ r => .l (.exit 0 (mkSt ({ slots := [5], sh := (.cons (.dat (.slice (.int .i64))) .nil), obs := [] }) ((r, ()), ())))
noncomputable def S_sp_l11Try_2 (rec_ : (List (List (Int))) → (List (List (Int))) → (Int) → (Int) → (List (Int)) → (List (Int)) → Option (List (Int))) (k : (List (List (Int))) × ((List (List (Int))) × ((Int) × ((Int) × ((List (Int)) × (List (Int))))))) (v : (List (Int)) × (Int)) : Tr (((List (Int)) × (Int)) ⊕ (List (Int))) :=
  .t (decide (v.2 < ((List.length k.2.2.2.2.1 : Nat) : Int)))
    (.g (inR v.2 (List.length k.2.2.2.2.1)) <|
      .c (List (Int)) (F_sp_l1Put v.1 (List.getD k.2.2.2.2.1 (Int.toNat v.2) (0 : Int))) fun r20_ =>
      .l (.inl (r20_, (IntKind.wrap .i64 (v.2 + (1 : Int))))))
    (.l (.inr v.1))
noncomputable def L_sp_l11Try_2 (rec_ : (List (List (Int))) → (List (List (Int))) → (Int) → (Int) → (List (Int)) → (List (Int)) → Option (List (Int))) (k : (List (List (Int))) × ((List (List (Int))) × ((Int) × ((Int) × ((List (Int)) × (List (Int))))))) (v : (List (Int)) × (Int)) : Option (List (Int)) := iter (fun v => (S_sp_l11Try_2 rec_ k v).ev) v
noncomputable def DL_sp_l11Try_2 (rec_ : (List (List (Int))) → (List (List (Int))) → (Int) → (Int) → (List (Int)) → (List (Int)) → Option (List (Int))) : LD where
  head := { acts := [.fz 39], S := { slots := [0, 1, 2, 3, 4, 5, 14, 15], sh := (.cons (.dat (.slice (.slice (.int .i64)))) (.cons (.dat (.slice (.slice (.int .i64)))) (.cons (.dat (.int .i64)) (.cons (.dat (.int .i64)) (.cons (.dat (.slice (.int .i64))) (.cons (.dat (.slice (.int .i64))) (.cons (.dat (.slice (.int .i64))) (.cons (.dat (.int .i64)) .nil)))))))), obs := [] } }
  exits := [(2, { acts := [], S := { slots := [0, 1, 2, 3, 4, 5, 14], sh := (.cons (.dat (.slice (.slice (.int .i64)))) (.cons (.dat (.slice (.slice (.int .i64)))) (.cons (.dat (.int .i64)) (.cons (.dat (.int .i64)) (.cons (.dat (.slice (.int .i64))) (.cons (.dat (.slice (.int .i64))) (.cons (.dat (.slice (.int .i64))) .nil))))))), obs := [] } })]
  rets := { acts := [], S := { slots := [], sh := .nil, obs := [] } }
  K := (List (List (Int))) × ((List (List (Int))) × ((Int) × ((Int) × ((List (Int)) × (List (Int))))))
  V := (List (Int)) × (Int)
  R := List (Int)
  join := fun k v => ((k.1, (k.2.1, (k.2.2.1, (k.2.2.2.1, (k.2.2.2.2.1, (k.2.2.2.2.2, (v.1, (v.2, ())))))))), ())
  sk := fun t => (t.1.1, (t.1.2.1, (t.1.2.2.1, (t.1.2.2.2.1, (t.1.2.2.2.2.1, t.1.2.2.2.2.2.1)))))
  sv := fun t => (t.1.2.2.2.2.2.2.1, t.1.2.2.2.2.2.2.2.1)
  step := S_sp_l11Try_2 rec_
  leaf := fun k r => .l (.exit 2 (mkSt ({ slots := [0, 1, 2, 3, 4, 5, 14], sh := (.cons (.dat (.slice (.slice (.int .i64)))) (.cons (.dat (.slice (.slice (.int .i64)))) (.cons (.dat (.int .i64)) (.cons (.dat (.int .i64)) (.cons (.dat (.slice (.int .i64))) (.cons (.dat (.slice (.int .i64))) (.cons (.dat (.slice (.int .i64))) .nil))))))), obs := [] }) ((k.1, (k.2.1, (k.2.2.1, (k.2.2.2.1, (k.2.2.2.2.1, (k.2.2.2.2.2, (r, ()))))))), ())))
noncomputable def T_sp_l11Try (rec_ : (List (List (Int))) → (List (List (Int))) → (Int) → (Int) → (List (Int)) → (List (Int)) → Option (List (Int))) (a1_ : List (List (Int))) (a2_ : List (List (Int))) (a3_ : Int) (a4_ : Int) (a5_ : List (Int)) (a6_ : List (Int)) : Tr (List (Int)) :=
  .t (decide (((List.length a5_ : Nat) : Int) < ((List.length a1_ : Nat) : Int)))
    (.c (List (Int)) (L_sp_l11Try_0 rec_ (a1_, (a2_, (a3_, (a4_, a5_)))) (a6_, (0 : Int))) fun r11_ =>
      .l r11_)
    (.c (List (Int)) (L_sp_l11Try_2 rec_ (a1_, (a2_, (a3_, (a4_, (a5_, a6_))))) (([] : List (Int)), (0 : Int))) fun r28_ =>
      .t (decide (a3_ < ((List.length r28_ : Nat) : Int)))
        (.l a6_)
        (.c (Bool) (F_sp_l11Hubs a1_ a5_) fun r29_ =>
          .t (!r29_)
            (.l a6_)
            (.t (((List.length a6_ : Nat) : Int) == (0 : Int))
                (.l a5_)
                (.c (Int) (F_sp_l11Cost a1_ a2_ a5_ a4_) fun r30_ =>
                  .c (Int) (F_sp_l11Cost a1_ a2_ a6_ a4_) fun r31_ =>
                  .t (decide (r30_ < r31_))
                    (.l a5_)
                    (.l a6_)))))
noncomputable def F_sp_l11Try : Nat → (List (List (Int))) → (List (List (Int))) → (Int) → (Int) → (List (Int)) → (List (Int)) → Option (List (Int))
  | 0 => fun _ _ _ _ _ _ => none
  | n + 1 => fun a1_ a2_ a3_ a4_ a5_ a6_ => (T_sp_l11Try (F_sp_l11Try n) a1_ a2_ a3_ a4_ a5_ a6_).ev
noncomputable def A_sp_l11Try : Sh := (.cons (.dat (.slice (.slice (.int .i64)))) (.cons (.dat (.slice (.slice (.int .i64)))) (.cons (.dat (.int .i64)) (.cons (.dat (.int .i64)) (.cons (.dat (.slice (.int .i64))) (.cons (.dat (.slice (.int .i64))) .nil))))))
noncomputable def I_sp_l11Try : List (Nat × OSh) := []
noncomputable def K_sp_l11Try : RetK := { acts := [], res := [.tmp 12], sh := (.cons (.dat (.slice (.int .i64))) .nil), obs := [], pins := [] }
noncomputable def Dr_sp_l11Try (rec_ : (List (List (Int))) → (List (List (Int))) → (Int) → (Int) → (List (Int)) → (List (Int)) → Option (List (Int))) : FD where
  A := A_sp_l11Try
  ins := I_sp_l11Try
  lend := []
  R := List (Int)
  F := fun x => rec_ x.1.1 x.1.2.1 x.1.2.2.1 x.1.2.2.2.1 x.1.2.2.2.2.1 x.1.2.2.2.2.2.1
  emb := fun r => ([.dat (.slice (.int .i64)) r], [])
noncomputable def D_sp_l11Try (n : Nat) : FD := Dr_sp_l11Try (F_sp_l11Try n)
noncomputable def E_sp_l11Try (rec_ : (List (List (Int))) → (List (List (Int))) → (Int) → (Int) → (List (Int)) → (List (Int)) → Option (List (Int))) : Env := envOf [(142, D_sp_l1Own), (85, Dr_sp_l11Try rec_), (143, D_sp_l1Put), (125, D_sp_l11Hubs), (126, D_sp_l11Cost)]
noncomputable def Z_sp_l11Try : Nat → Nat → List Nat := fun r i => match look [(5, [(10, [35])]), (11, [(5, [46])])] r with
  | some l => (look l i).getD []
  | none => []
noncomputable def O_sp_l11Try (rec_ : (List (List (Int))) → (List (List (Int))) → (Int) → (Int) → (List (Int)) → (List (Int)) → Option (List (Int))) : List (Nat × LD) := [(0, DL_sp_l11Try_0 rec_), (2, DL_sp_l11Try_2 rec_)]
noncomputable def C_sp_l11Try : Code := (f85.body).getD .skip
noncomputable def T_sp_BestHubs (a1_ : List (List (Int))) (a2_ : List (List (Int))) (a3_ : Int) (a4_ : Int) : Tr ((List (Int)) × (Bool)) :=
  .c (Bool) (F_sp_l11Flows a1_ a2_ a4_) fun r1_ =>
  .t (!r1_)
    (.l (([] : List (Int)), false))
    (.c (Bool) (F_sp_l1In a3_ (1 : Int) (5 : Int)) fun r2_ =>
      .t (!r2_)
        (.l (([] : List (Int)), false))
        (.c (List (Int)) (F_sp_l11Try 1000000 a1_ a2_ a3_ a4_ ([] : List (Int)) ([] : List (Int))) fun r3_ =>
          .l (r3_, true)))
noncomputable def F_sp_BestHubs (a1_ : List (List (Int))) (a2_ : List (List (Int))) (a3_ : Int) (a4_ : Int) : Option ((List (Int)) × (Bool)) := (T_sp_BestHubs a1_ a2_ a3_ a4_).ev
noncomputable def A_sp_BestHubs : Sh := (.cons (.dat (.slice (.slice (.int .i64)))) (.cons (.dat (.slice (.slice (.int .i64)))) (.cons (.dat (.int .i64)) (.cons (.dat (.int .i64)) .nil))))
noncomputable def I_sp_BestHubs : List (Nat × OSh) := []
noncomputable def K_sp_BestHubs : RetK := { acts := [.fz 20], res := [.tmp 8, .tmp 9], sh := (.cons (.dat (.slice (.int .i64))) (.cons (.dat .bool) .nil)), obs := [], pins := [] }
noncomputable def D_sp_BestHubs : FD where
  A := A_sp_BestHubs
  ins := I_sp_BestHubs
  lend := []
  R := (List (Int)) × (Bool)
  F := fun x => F_sp_BestHubs x.1.1 x.1.2.1 x.1.2.2.1 x.1.2.2.2.1
  emb := fun r => ([.dat (.slice (.int .i64)) r.1, .dat .bool r.2], [])
noncomputable def E_sp_BestHubs : Env := envOf [(83, D_sp_l11Flows), (84, D_sp_l1In), (85, D_sp_l11Try 1000000)]
noncomputable def Z_sp_BestHubs : Nat → Nat → List Nat := fun r i => match look [(3, [(6, [25, 26])])] r with
  | some l => (look l i).getD []
  | none => []
noncomputable def O_sp_BestHubs : List (Nat × LD) := []
noncomputable def C_sp_BestHubs : Code := (f30.body).getD .skip
noncomputable def S_lw_rInts_0 (k : (List (Int)) × (List (Int))) (v : Int) : Tr ((Int) ⊕ ((Unit) ⊕ (Unit))) :=
  .t (decide (v < ((List.length k.1 : Nat) : Int)))
    (.g (inR v (List.length k.1)) <|
      .g (inR v (List.length k.2)) <|
      .t ((List.getD k.1 (Int.toNat v) (0 : Int)) != (List.getD k.2 (Int.toNat v) (0 : Int)))
        (.l (.inr (.inr ())))
        (.l (.inl (IntKind.wrap .i64 (v + (1 : Int))))))
    (.l (.inr (.inl ())))
noncomputable def L_lw_rInts_0 (k : (List (Int)) × (List (Int))) (v : Int) : Option ((Unit) ⊕ (Unit)) := iter (fun v => (S_lw_rInts_0 k v).ev) v
noncomputable def DL_lw_rInts_0 : LD where
  head := { acts := [], S := { slots := [0, 1, 5], sh := (.cons (.dat (.slice (.int .i64))) (.cons (.dat (.slice (.int .i64))) (.cons (.dat (.int .i64)) .nil))), obs := [] } }
  exits := [(0, { acts := [], S := { slots := [], sh := .nil, obs := [] } })]
  rets := { acts := [], S := { slots := [4], sh := (.cons (.dat .bool) .nil), obs := [] } }
  K := (List (Int)) × (List (Int))
  V := Int
  R := (Unit) ⊕ (Unit)
  join := fun k v => ((k.1, (k.2, (v, ()))), ())
  sk := fun t => (t.1.1, t.1.2.1)
  sv := fun t => t.1.2.2.1
  step := S_lw_rInts_0
  leaf := fun _ r => .s (Unit) (Unit) r (fun _ => .l (.exit 0 (mkSt ({ slots := [], sh := .nil, obs := [] }) ((), ())))) (fun _ => .l (.ret (mkSt ({ slots := [4], sh := (.cons (.dat .bool) .nil), obs := [] }) ((false, ()), ()))))
noncomputable def T_lw_rInts (a1_ : List (Int)) (a2_ : List (Int)) : Tr (Bool) :=
  .t (((List.length a1_ : Nat) : Int) != ((List.length a2_ : Nat) : Int))
    (.l false)
    (.c ((Unit) ⊕ (Unit)) (L_lw_rInts_0 (a1_, a2_) (0 : Int)) fun r5_ =>
      .s (Unit) (Unit) r5_
        (fun _ => .l true)
        (fun _ => .l false))
noncomputable def F_lw_rInts (a1_ : List (Int)) (a2_ : List (Int)) : Option (Bool) := (T_lw_rInts a1_ a2_).ev
noncomputable def A_lw_rInts : Sh := (.cons (.dat (.slice (.int .i64))) (.cons (.dat (.slice (.int .i64))) .nil))
noncomputable def I_lw_rInts : List (Nat × OSh) := []
noncomputable def K_lw_rInts : RetK := { acts := [], res := [.tmp 4], sh := (.cons (.dat .bool) .nil), obs := [], pins := [] }
noncomputable def D_lw_rInts : FD where
  A := A_lw_rInts
  ins := I_lw_rInts
  lend := []
  R := Bool
  F := fun x => F_lw_rInts x.1.1 x.1.2.1
  emb := fun r => ([.dat .bool r], [])
noncomputable def E_lw_rInts : Env := envOf []
noncomputable def Z_lw_rInts : Nat → Nat → List Nat := fun _ _ => []
noncomputable def O_lw_rInts : List (Nat × LD) := [(0, DL_lw_rInts_0)]
noncomputable def C_lw_rInts : Code := (f59.body).getD .skip
noncomputable def S_lw_rHas_0 (k : (List (Int)) × (Int)) (v : Int) : Tr ((Int) ⊕ ((Unit) ⊕ (Unit))) :=
  .t (decide (v < ((List.length k.1 : Nat) : Int)))
    (.g (inR v (List.length k.1)) <|
      .t ((List.getD k.1 (Int.toNat v) (0 : Int)) == k.2)
        (.l (.inr (.inr ())))
        (.l (.inl (IntKind.wrap .i64 (v + (1 : Int))))))
    (.l (.inr (.inl ())))
noncomputable def L_lw_rHas_0 (k : (List (Int)) × (Int)) (v : Int) : Option ((Unit) ⊕ (Unit)) := iter (fun v => (S_lw_rHas_0 k v).ev) v
noncomputable def DL_lw_rHas_0 : LD where
  head := { acts := [], S := { slots := [0, 1, 5], sh := (.cons (.dat (.slice (.int .i64))) (.cons (.dat (.int .i64)) (.cons (.dat (.int .i64)) .nil))), obs := [] } }
  exits := [(0, { acts := [], S := { slots := [], sh := .nil, obs := [] } })]
  rets := { acts := [], S := { slots := [4], sh := (.cons (.dat .bool) .nil), obs := [] } }
  K := (List (Int)) × (Int)
  V := Int
  R := (Unit) ⊕ (Unit)
  join := fun k v => ((k.1, (k.2, (v, ()))), ())
  sk := fun t => (t.1.1, t.1.2.1)
  sv := fun t => t.1.2.2.1
  step := S_lw_rHas_0
  leaf := fun _ r => .s (Unit) (Unit) r (fun _ => .l (.exit 0 (mkSt ({ slots := [], sh := .nil, obs := [] }) ((), ())))) (fun _ => .l (.ret (mkSt ({ slots := [4], sh := (.cons (.dat .bool) .nil), obs := [] }) ((true, ()), ()))))
noncomputable def T_lw_rHas (a1_ : List (Int)) (a2_ : Int) : Tr (Bool) :=
  .c ((Unit) ⊕ (Unit)) (L_lw_rHas_0 (a1_, a2_) (0 : Int)) fun r5_ =>
  .s (Unit) (Unit) r5_
    (fun _ => .l false)
    (fun _ => .l true)
noncomputable def F_lw_rHas (a1_ : List (Int)) (a2_ : Int) : Option (Bool) := (T_lw_rHas a1_ a2_).ev
noncomputable def A_lw_rHas : Sh := (.cons (.dat (.slice (.int .i64))) (.cons (.dat (.int .i64)) .nil))
noncomputable def I_lw_rHas : List (Nat × OSh) := []
noncomputable def K_lw_rHas : RetK := { acts := [], res := [.tmp 4], sh := (.cons (.dat .bool) .nil), obs := [], pins := [] }
noncomputable def D_lw_rHas : FD where
  A := A_lw_rHas
  ins := I_lw_rHas
  lend := []
  R := Bool
  F := fun x => F_lw_rHas x.1.1 x.1.2.1
  emb := fun r => ([.dat .bool r], [])
noncomputable def E_lw_rHas : Env := envOf []
noncomputable def Z_lw_rHas : Nat → Nat → List Nat := fun _ _ => []
noncomputable def O_lw_rHas : List (Nat × LD) := [(0, DL_lw_rHas_0)]
noncomputable def C_lw_rHas : Code := (f129.body).getD .skip
noncomputable def S_lw_rSorted_0 (k : List (Int)) (v : (Int) × (List (Int))) : Tr (((Int) × (List (Int))) ⊕ (List (Int))) :=
  .t (decide (v.1 ≤ (1000 : Int)))
    (.c (Bool) (F_lw_rHas k v.1) fun r4_ =>
      .t r4_
        (.g (decide ((List.length v.2 + List.length ([v.1] : List (Int))) * 8 ≤ 140737488355328)) <|
          .l (.inl ((IntKind.wrap .i64 (v.1 + (1 : Int))), (v.2 ++ ([v.1] : List (Int))))))
        (.l (.inl ((IntKind.wrap .i64 (v.1 + (1 : Int))), v.2))))
    (.l (.inr v.2))
noncomputable def L_lw_rSorted_0 (k : List (Int)) (v : (Int) × (List (Int))) : Option (List (Int)) := iter (fun v => (S_lw_rSorted_0 k v).ev) v
noncomputable def DL_lw_rSorted_0 : LD where
  head := { acts := [], S := { slots := [0, 3, 4], sh := (.cons (.dat (.slice (.int .i64))) (.cons (.arr 5) (.cons (.dat (.int .i64)) .nil))), obs := [(5, .arr 3 (.int .i64))] } }
  exits := [(0, { acts := [], S := { slots := [3], sh := (.cons (.arr 5) .nil), obs := [(5, .arr 3 (.int .i64))] } })]
  rets := { acts := [], S := { slots := [], sh := .nil, obs := [] } }
  K := List (Int)
  V := (Int) × (List (Int))
  R := List (Int)
  join := fun k v => ((k, ((), (v.1, ()))), (v.2, ()))
  sk := fun t => t.1.1
  sv := fun t => (t.1.2.2.1, t.2.1)
  step := S_lw_rSorted_0
  leaf := fun _ r => .l (.exit 0 (mkSt ({ slots := [3], sh := (.cons (.arr 5) .nil), obs := [(5, .arr 3 (.int .i64))] }) (((), ()), (r, ()))))
noncomputable def T_lw_rSorted (a1_ : List (Int)) : Tr (List (Int)) :=
  .c (List (Int)) (L_lw_rSorted_0 a1_ ((-1 : Int), ([] : List (Int)))) fun r6_ =>
  .l r6_
noncomputable def F_lw_rSorted (a1_ : List (Int)) : Option (List (Int)) := (T_lw_rSorted a1_).ev
noncomputable def A_lw_rSorted : Sh := (.cons (.dat (.slice (.int .i64))) .nil)
noncomputable def I_lw_rSorted : List (Nat × OSh) := []
noncomputable def K_lw_rSorted : RetK := { acts := [.ren 5 0], res := [.tmp 2], sh := (.cons (.arr 0) .nil), obs := [(0, .arr 3 (.int .i64))], pins := [] }
noncomputable def D_lw_rSorted : FD where
  A := A_lw_rSorted
  ins := I_lw_rSorted
  lend := []
  R := List (Int)
  F := fun x => F_lw_rSorted x.1.1
  emb := fun r => ([.arr 0], [(0, .arr 3 (.int .i64) r)])
noncomputable def E_lw_rSorted : Env := envOf [(129, D_lw_rHas)]
noncomputable def Z_lw_rSorted : Nat → Nat → List Nat := fun _ _ => []
noncomputable def O_lw_rSorted : List (Nat × LD) := [(0, DL_lw_rSorted_0)]
noncomputable def C_lw_rSorted : Code := (f60.body).getD .skip
noncomputable def S_im_IsMetricGround_4 (k : (List (List (Int))) × ((Int) × ((Int) × ((Int) × ((Int) × ((Int) × ((Int) × (Int)))))))) (v : Int) : Tr ((Int) ⊕ ((Unit) ⊕ (Unit))) :=
  .t (decide (v < k.2.2.2.2.2.2.2))
    (.g (inR k.2.1 (List.length k.1)) <|
      .g (inR k.2.2.1 (List.length (List.getD k.1 (Int.toNat k.2.1) ([] : List (Int))))) <|
      .g (inR k.2.1 (List.length k.1)) <|
      .g (inR v (List.length (List.getD k.1 (Int.toNat k.2.1) ([] : List (Int))))) <|
      .g (inR v (List.length k.1)) <|
      .g (inR k.2.2.1 (List.length (List.getD k.1 (Int.toNat v) ([] : List (Int))))) <|
      .t (decide ((IntKind.wrap .i64 ((List.getD (List.getD k.1 (Int.toNat k.2.1) ([] : List (Int))) (Int.toNat v) (0 : Int)) + (List.getD (List.getD k.1 (Int.toNat v) ([] : List (Int))) (Int.toNat k.2.2.1) (0 : Int)))) < (List.getD (List.getD k.1 (Int.toNat k.2.1) ([] : List (Int))) (Int.toNat k.2.2.1) (0 : Int))))
        (.l (.inr (.inr ())))
        (.l (.inl (IntKind.wrap .i64 (v + (1 : Int))))))
    (.l (.inr (.inl ())))
noncomputable def L_im_IsMetricGround_4 (k : (List (List (Int))) × ((Int) × ((Int) × ((Int) × ((Int) × ((Int) × ((Int) × (Int)))))))) (v : Int) : Option ((Unit) ⊕ (Unit)) := iter (fun v => (S_im_IsMetricGround_4 k v).ev) v
noncomputable def DL_im_IsMetricGround_4 : LD where
  head := { acts := [], S := { slots := [0, 4, 5, 11, 12, 16, 17, 21, 22], sh := (.cons (.dat (.slice (.slice (.int .i64)))) (.cons (.dat (.int .i64)) (.cons (.dat (.int .i64)) (.cons (.dat (.int .i64)) (.cons (.dat (.int .i64)) (.cons (.dat (.int .i64)) (.cons (.dat (.int .i64)) (.cons (.dat (.int .i64)) (.cons (.dat (.int .i64)) .nil))))))))), obs := [] } }
  exits := [(4, { acts := [], S := { slots := [0, 4, 11, 12, 16, 17], sh := (.cons (.dat (.slice (.slice (.int .i64)))) (.cons (.dat (.int .i64)) (.cons (.dat (.int .i64)) (.cons (.dat (.int .i64)) (.cons (.dat (.int .i64)) (.cons (.dat (.int .i64)) .nil)))))), obs := [] } })]
  rets := { acts := [], S := { slots := [2, 3], sh := (.cons (.dat .bool) (.cons (.dat .bool) .nil)), obs := [] } }
  K := (List (List (Int))) × ((Int) × ((Int) × ((Int) × ((Int) × ((Int) × ((Int) × (Int)))))))
  V := Int
  R := (Unit) ⊕ (Unit)
  join := fun k v => ((k.1, (k.2.1, (k.2.2.1, (k.2.2.2.1, (k.2.2.2.2.1, (k.2.2.2.2.2.1, (k.2.2.2.2.2.2.1, (k.2.2.2.2.2.2.2, (v, ()))))))))), ())
  sk := fun t => (t.1.1, (t.1.2.1, (t.1.2.2.1, (t.1.2.2.2.1, (t.1.2.2.2.2.1, (t.1.2.2.2.2.2.1, (t.1.2.2.2.2.2.2.1, t.1.2.2.2.2.2.2.2.1)))))))
  sv := fun t => t.1.2.2.2.2.2.2.2.2.1
  step := S_im_IsMetricGround_4
  leaf := fun k r => .s (Unit) (Unit) r (fun _ => .l (.exit 4 (mkSt ({ slots := [0, 4, 11, 12, 16, 17], sh := (.cons (.dat (.slice (.slice (.int .i64)))) (.cons (.dat (.int .i64)) (.cons (.dat (.int .i64)) (.cons (.dat (.int .i64)) (.cons (.dat (.int .i64)) (.cons (.dat (.int .i64)) .nil)))))), obs := [] }) ((k.1, (k.2.1, (k.2.2.2.1, (k.2.2.2.2.1, (k.2.2.2.2.2.1, (k.2.2.2.2.2.2.1, ())))))), ())))) (fun _ => .l (.ret (mkSt ({ slots := [2, 3], sh := (.cons (.dat .bool) (.cons (.dat .bool) .nil)), obs := [] }) ((false, (true, ())), ()))))
noncomputable def S_im_IsMetricGround_2 (k : (List (List (Int))) × ((Int) × ((Int) × ((Int) × (Int))))) (v : Int) : Tr ((Int) ⊕ ((Unit) ⊕ (Unit))) :=
  .t (decide (v < k.2.2.2.2))
    (.c ((Unit) ⊕ (Unit)) (L_im_IsMetricGround_4 (k.1, (k.2.1, (v, (k.2.2.1, (k.2.2.2.1, (k.2.2.2.2, (v, ((List.length k.1 : Nat) : Int)))))))) (0 : Int)) fun r28_ =>
      .s (Unit) (Unit) r28_
        (fun _ => .l (.inl (IntKind.wrap .i64 (v + (1 : Int)))))
        (fun _ => .l (.inr (.inr ()))))
    (.l (.inr (.inl ())))
noncomputable def L_im_IsMetricGround_2 (k : (List (List (Int))) × ((Int) × ((Int) × ((Int) × (Int))))) (v : Int) : Option ((Unit) ⊕ (Unit)) := iter (fun v => (S_im_IsMetricGround_2 k v).ev) v
noncomputable def DL_im_IsMetricGround_2 : LD where
  head := { acts := [], S := { slots := [0, 4, 11, 12, 16, 17], sh := (.cons (.dat (.slice (.slice (.int .i64)))) (.cons (.dat (.int .i64)) (.cons (.dat (.int .i64)) (.cons (.dat (.int .i64)) (.cons (.dat (.int .i64)) (.cons (.dat (.int .i64)) .nil)))))), obs := [] } }
  exits := [(2, { acts := [], S := { slots := [0, 11, 12], sh := (.cons (.dat (.slice (.slice (.int .i64)))) (.cons (.dat (.int .i64)) (.cons (.dat (.int .i64)) .nil))), obs := [] } })]
  rets := { acts := [], S := { slots := [2, 3], sh := (.cons (.dat .bool) (.cons (.dat .bool) .nil)), obs := [] } }
  K := (List (List (Int))) × ((Int) × ((Int) × ((Int) × (Int))))
  V := Int
  R := (Unit) ⊕ (Unit)
  join := fun k v => ((k.1, (k.2.1, (k.2.2.1, (k.2.2.2.1, (k.2.2.2.2, (v, ())))))), ())
  sk := fun t => (t.1.1, (t.1.2.1, (t.1.2.2.1, (t.1.2.2.2.1, t.1.2.2.2.2.1))))
  sv := fun t => t.1.2.2.2.2.2.1
  step := S_im_IsMetricGround_2
  leaf := fun k r => .s (Unit) (Unit) r (fun _ => .l (.exit 2 (mkSt ({ slots := [0, 11, 12], sh := (.cons (.dat (.slice (.slice (.int .i64)))) (.cons (.dat (.int .i64)) (.cons (.dat (.int .i64)) .nil))), obs := [] }) ((k.1, (k.2.2.1, (k.2.2.2.1, ()))), ())))) (fun _ => .l (.ret (mkSt ({ slots := [2, 3], sh := (.cons (.dat .bool) (.cons (.dat .bool) .nil)), obs := [] }) ((false, (true, ())), ()))))
noncomputable def S_im_IsMetricGround_0 (k : (List (List (Int))) × (Int)) (v : Int) : Tr ((Int) ⊕ ((Unit) ⊕ (Unit))) :=
  .t (decide (v < k.2))
    (.c ((Unit) ⊕ (Unit)) (L_im_IsMetricGround_2 (k.1, (v, (k.2, (v, ((List.length k.1 : Nat) : Int))))) (0 : Int)) fun r36_ =>
      .s (Unit) (Unit) r36_
        (fun _ => .l (.inl (IntKind.wrap .i64 (v + (1 : Int)))))
        (fun _ => .l (.inr (.inr ()))))
    (.l (.inr (.inl ())))
noncomputable def L_im_IsMetricGround_0 (k : (List (List (Int))) × (Int)) (v : Int) : Option ((Unit) ⊕ (Unit)) := iter (fun v => (S_im_IsMetricGround_0 k v).ev) v
noncomputable def DL_im_IsMetricGround_0 : LD where
  head := { acts := [], S := { slots := [0, 11, 12], sh := (.cons (.dat (.slice (.slice (.int .i64)))) (.cons (.dat (.int .i64)) (.cons (.dat (.int .i64)) .nil))), obs := [] } }
  exits := [(0, { acts := [], S := { slots := [], sh := .nil, obs := [] } })]
  rets := { acts := [], S := { slots := [2, 3], sh := (.cons (.dat .bool) (.cons (.dat .bool) .nil)), obs := [] } }
  K := (List (List (Int))) × (Int)
  V := Int
  R := (Unit) ⊕ (Unit)
  join := fun k v => ((k.1, (k.2, (v, ()))), ())
  sk := fun t => (t.1.1, t.1.2.1)
  sv := fun t => t.1.2.2.1
  step := S_im_IsMetricGround_0
  leaf := fun _ r => .s (Unit) (Unit) r (fun _ => .l (.exit 0 (mkSt ({ slots := [], sh := .nil, obs := [] }) ((), ())))) (fun _ => .l (.ret (mkSt ({ slots := [2, 3], sh := (.cons (.dat .bool) (.cons (.dat .bool) .nil)), obs := [] }) ((false, (true, ())), ()))))
noncomputable def T_im_IsMetricGround (a1_ : List (List (Int))) : Tr ((Bool) × (Bool)) :=
  .c (Bool) (F_im_IsGround a1_) fun r1_ =>
  .t (!r1_)
    (.l (false, false))
    (.c ((Unit) ⊕ (Unit)) (L_im_IsMetricGround_0 (a1_, ((List.length a1_ : Nat) : Int)) (0 : Int)) fun r41_ =>
      .s (Unit) (Unit) r41_
        (fun _ => .l (true, true))
        (fun _ => .l (false, true)))
noncomputable def F_im_IsMetricGround (a1_ : List (List (Int))) : Option ((Bool) × (Bool)) := (T_im_IsMetricGround a1_).ev
noncomputable def A_im_IsMetricGround : Sh := (.cons (.dat (.slice (.slice (.int .i64)))) .nil)
noncomputable def I_im_IsMetricGround : List (Nat × OSh) := []
noncomputable def K_im_IsMetricGround : RetK := { acts := [], res := [.tmp 2, .tmp 3], sh := (.cons (.dat .bool) (.cons (.dat .bool) .nil)), obs := [], pins := [] }
noncomputable def D_im_IsMetricGround : FD where
  A := A_im_IsMetricGround
  ins := I_im_IsMetricGround
  lend := []
  R := (Bool) × (Bool)
  F := fun x => F_im_IsMetricGround x.1.1
  emb := fun r => ([.dat .bool r.1, .dat .bool r.2], [])
noncomputable def E_im_IsMetricGround : Env := envOf [(66, D_im_IsGround)]
noncomputable def Z_im_IsMetricGround : Nat → Nat → List Nat := fun _ _ => []
noncomputable def O_im_IsMetricGround : List (Nat × LD) := [(4, DL_im_IsMetricGround_4), (2, DL_im_IsMetricGround_2), (0, DL_im_IsMetricGround_0)]
noncomputable def C_im_IsMetricGround : Code := (f61.body).getD .skip
noncomputable def S_lw_FnHubs_2 (k : (List (List (Int))) × ((List (List (Int))) × ((Int) × ((Int) × ((Bool) × ((List (List (Int))) × ((List (List (Int))) × ((Int) × ((Int) × ((Int) × (List (Int)))))))))))) (v : (Int) × (List (Int))) : Tr (((Int) × (List (Int))) ⊕ (List (Int))) :=
  .t (decide (v.1 < ((List.length k.2.2.2.2.2.1 : Nat) : Int)))
    (.g (decide ((List.length v.2 + List.length ([k.2.2.2.2.2.2.2.2.2.1] : List (Int))) * 8 ≤ 140737488355328)) <|
      .l (.inl ((IntKind.wrap .i64 (v.1 + (1 : Int))), (v.2 ++ ([k.2.2.2.2.2.2.2.2.2.1] : List (Int))))))
    (.l (.inr v.2))
noncomputable def L_lw_FnHubs_2 (k : (List (List (Int))) × ((List (List (Int))) × ((Int) × ((Int) × ((Bool) × ((List (List (Int))) × ((List (List (Int))) × ((Int) × ((Int) × ((Int) × (List (Int)))))))))))) (v : (Int) × (List (Int))) : Option (List (Int)) := iter (fun v => (S_lw_FnHubs_2 k v).ev) v
noncomputable def DL_lw_FnHubs_2 : LD where
  head := { acts := [], S := { slots := [3, 4, 5, 6, 7, 8, 21, 22, 24, 29, 35, 36, 37], sh := (.cons (.dat (.slice (.slice (.int .i64)))) (.cons (.dat (.slice (.slice (.int .i64)))) (.cons (.arr 3394) (.cons (.dat (.int .i64)) (.cons (.dat (.int .i64)) (.cons (.dat .bool) (.cons (.dat (.slice (.slice (.int .i64)))) (.cons (.dat (.slice (.slice (.int .i64)))) (.cons (.dat (.int .i64)) (.cons (.dat (.int .i64)) (.cons (.dat (.int .i64)) (.cons (.arr 223) (.cons (.dat (.int .i64)) .nil))))))))))))), obs := [(3394, .arr 3 (.int .i64)), (223, .arr 3 (.int .i64))] } }
  exits := [(2, { acts := [], S := { slots := [3, 4, 5, 6, 7, 8, 21, 22, 24, 29, 35, 36], sh := (.cons (.dat (.slice (.slice (.int .i64)))) (.cons (.dat (.slice (.slice (.int .i64)))) (.cons (.arr 3394) (.cons (.dat (.int .i64)) (.cons (.dat (.int .i64)) (.cons (.dat .bool) (.cons (.dat (.slice (.slice (.int .i64)))) (.cons (.dat (.slice (.slice (.int .i64)))) (.cons (.dat (.int .i64)) (.cons (.dat (.int .i64)) (.cons (.dat (.int .i64)) (.cons (.arr 223) .nil)))))))))))), obs := [(3394, .arr 3 (.int .i64)), (223, .arr 3 (.int .i64))] } })]
  rets := { acts := [], S := { slots := [], sh := .nil, obs := [] } }
  K := (List (List (Int))) × ((List (List (Int))) × ((Int) × ((Int) × ((Bool) × ((List (List (Int))) × ((List (List (Int))) × ((Int) × ((Int) × ((Int) × (List (Int)))))))))))
  V := (Int) × (List (Int))
  R := List (Int)
  join := fun k v => ((k.1, (k.2.1, ((), (k.2.2.1, (k.2.2.2.1, (k.2.2.2.2.1, (k.2.2.2.2.2.1, (k.2.2.2.2.2.2.1, (k.2.2.2.2.2.2.2.1, (k.2.2.2.2.2.2.2.2.1, (k.2.2.2.2.2.2.2.2.2.1, ((), (v.1, ()))))))))))))), (k.2.2.2.2.2.2.2.2.2.2, (v.2, ())))
  sk := fun t => (t.1.1, (t.1.2.1, (t.1.2.2.2.1, (t.1.2.2.2.2.1, (t.1.2.2.2.2.2.1, (t.1.2.2.2.2.2.2.1, (t.1.2.2.2.2.2.2.2.1, (t.1.2.2.2.2.2.2.2.2.1, (t.1.2.2.2.2.2.2.2.2.2.1, (t.1.2.2.2.2.2.2.2.2.2.2.1, t.2.1))))))))))
  sv := fun t => (t.1.2.2.2.2.2.2.2.2.2.2.2.2.1, t.2.2.1)
  step := S_lw_FnHubs_2
  leaf := fun k r => .l (.exit 2 (mkSt ({ slots := [3, 4, 5, 6, 7, 8, 21, 22, 24, 29, 35, 36], sh := (.cons (.dat (.slice (.slice (.int .i64)))) (.cons (.dat (.slice (.slice (.int .i64)))) (.cons (.arr 3394) (.cons (.dat (.int .i64)) (.cons (.dat (.int .i64)) (.cons (.dat .bool) (.cons (.dat (.slice (.slice (.int .i64)))) (.cons (.dat (.slice (.slice (.int .i64)))) (.cons (.dat (.int .i64)) (.cons (.dat (.int .i64)) (.cons (.dat (.int .i64)) (.cons (.arr 223) .nil)))))))))))), obs := [(3394, .arr 3 (.int .i64)), (223, .arr 3 (.int .i64))] }) ((k.1, (k.2.1, ((), (k.2.2.1, (k.2.2.2.1, (k.2.2.2.2.1, (k.2.2.2.2.2.1, (k.2.2.2.2.2.2.1, (k.2.2.2.2.2.2.2.1, (k.2.2.2.2.2.2.2.2.1, (k.2.2.2.2.2.2.2.2.2.1, ((), ())))))))))))), (k.2.2.2.2.2.2.2.2.2.2, (r, ())))))
noncomputable def S_lw_FnHubs_0 (k : (List (List (Int))) × ((List (List (Int))) × ((Int) × ((Int) × ((Bool) × ((List (List (Int))) × ((List (List (Int))) × ((Int) × ((Int) × (List (Int))))))))))) (v : Int) : Tr ((Int) ⊕ ((Unit) ⊕ (Unit))) :=
  .t (decide (v < ((List.length k.2.2.2.2.2.1 : Nat) : Int)))
    (.c (List (Int)) (L_lw_FnHubs_2 (k.1, (k.2.1, (k.2.2.1, (k.2.2.2.1, (k.2.2.2.2.1, (k.2.2.2.2.2.1, (k.2.2.2.2.2.2.1, (k.2.2.2.2.2.2.2.1, (k.2.2.2.2.2.2.2.2.1, (v, k.2.2.2.2.2.2.2.2.2)))))))))) ((0 : Int), ([] : List (Int)))) fun r54_ =>
      .c ((Int) × (Bool)) (F_im_HubCost k.2.2.2.2.2.1 k.2.2.2.2.2.2.1 r54_ k.2.2.2.2.2.2.2.1) fun r55_ =>
      .t (!r55_.2)
        (.l (.inr (.inr ())))
        (.t (decide (r55_.1 < k.2.2.2.2.2.2.2.2.1))
            (.l (.inr (.inr ())))
            (.l (.inl (IntKind.wrap .i64 (v + (1 : Int)))))))
    (.l (.inr (.inl ())))
noncomputable def L_lw_FnHubs_0 (k : (List (List (Int))) × ((List (List (Int))) × ((Int) × ((Int) × ((Bool) × ((List (List (Int))) × ((List (List (Int))) × ((Int) × ((Int) × (List (Int))))))))))) (v : Int) : Option ((Unit) ⊕ (Unit)) := iter (fun v => (S_lw_FnHubs_0 k v).ev) v
noncomputable def DL_lw_FnHubs_0 : LD where
  head := { acts := [], S := { slots := [3, 4, 5, 6, 7, 8, 21, 22, 24, 29, 35], sh := (.cons (.dat (.slice (.slice (.int .i64)))) (.cons (.dat (.slice (.slice (.int .i64)))) (.cons (.arr 3394) (.cons (.dat (.int .i64)) (.cons (.dat (.int .i64)) (.cons (.dat .bool) (.cons (.dat (.slice (.slice (.int .i64)))) (.cons (.dat (.slice (.slice (.int .i64)))) (.cons (.dat (.int .i64)) (.cons (.dat (.int .i64)) (.cons (.dat (.int .i64)) .nil))))))))))), obs := [(3394, .arr 3 (.int .i64))] } }
  exits := [(0, { acts := [], S := { slots := [3, 4, 5, 6, 7, 8], sh := (.cons (.dat (.slice (.slice (.int .i64)))) (.cons (.dat (.slice (.slice (.int .i64)))) (.cons (.arr 3394) (.cons (.dat (.int .i64)) (.cons (.dat (.int .i64)) (.cons (.dat .bool) .nil)))))), obs := [(3394, .arr 3 (.int .i64))] } })]
  rets := { acts := [], S := { slots := [2], sh := (.cons (.dat .bool) .nil), obs := [] } }
  K := (List (List (Int))) × ((List (List (Int))) × ((Int) × ((Int) × ((Bool) × ((List (List (Int))) × ((List (List (Int))) × ((Int) × ((Int) × (List (Int))))))))))
  V := Int
  R := (Unit) ⊕ (Unit)
  join := fun k v => ((k.1, (k.2.1, ((), (k.2.2.1, (k.2.2.2.1, (k.2.2.2.2.1, (k.2.2.2.2.2.1, (k.2.2.2.2.2.2.1, (k.2.2.2.2.2.2.2.1, (k.2.2.2.2.2.2.2.2.1, (v, ()))))))))))), (k.2.2.2.2.2.2.2.2.2, ()))
  sk := fun t => (t.1.1, (t.1.2.1, (t.1.2.2.2.1, (t.1.2.2.2.2.1, (t.1.2.2.2.2.2.1, (t.1.2.2.2.2.2.2.1, (t.1.2.2.2.2.2.2.2.1, (t.1.2.2.2.2.2.2.2.2.1, (t.1.2.2.2.2.2.2.2.2.2.1, t.2.1)))))))))
  sv := fun t => t.1.2.2.2.2.2.2.2.2.2.2.1
  step := S_lw_FnHubs_0
  leaf := fun k r => .s (Unit) (Unit) r (fun _ => .l (.exit 0 (mkSt ({ slots := [3, 4, 5, 6, 7, 8], sh := (.cons (.dat (.slice (.slice (.int .i64)))) (.cons (.dat (.slice (.slice (.int .i64)))) (.cons (.arr 3394) (.cons (.dat (.int .i64)) (.cons (.dat (.int .i64)) (.cons (.dat .bool) .nil)))))), obs := [(3394, .arr 3 (.int .i64))] }) ((k.1, (k.2.1, ((), (k.2.2.1, (k.2.2.2.1, (k.2.2.2.2.1, ())))))), (k.2.2.2.2.2.2.2.2.2, ()))))) (fun _ => .l (.ret (mkSt ({ slots := [2], sh := (.cons (.dat .bool) .nil), obs := [] }) ((false, ()), ()))))
noncomputable def S_lw_FnHubs_6 (k : (List (List (Int))) × ((List (List (Int))) × ((Int) × ((Bool) × ((Bool) × (Int)))))) (v : (Int) × (Int)) : Tr (((Int) × (Int)) ⊕ (Int)) :=
  .t (decide (v.2 < ((List.length k.1 : Nat) : Int)))
    (.t (k.2.2.2.2.2 != v.2)
        (.g (inR k.2.2.2.2.2 (List.length k.2.1)) <|
          .g (inR v.2 (List.length (List.getD k.2.1 (Int.toNat k.2.2.2.2.2) ([] : List (Int))))) <|
          .g (inR k.2.2.2.2.2 (List.length k.1)) <|
          .g (inR v.2 (List.length (List.getD k.1 (Int.toNat k.2.2.2.2.2) ([] : List (Int))))) <|
          .l (.inl ((IntKind.wrap .i64 (v.1 + (IntKind.wrap .i64 ((IntKind.wrap .i64 ((10 : Int) * (List.getD (List.getD k.2.1 (Int.toNat k.2.2.2.2.2) ([] : List (Int))) (Int.toNat v.2) (0 : Int)))) * (List.getD (List.getD k.1 (Int.toNat k.2.2.2.2.2) ([] : List (Int))) (Int.toNat v.2) (0 : Int)))))), (IntKind.wrap .i64 (v.2 + (1 : Int))))))
        (.l (.inl (v.1, (IntKind.wrap .i64 (v.2 + (1 : Int)))))))
    (.l (.inr v.1))
noncomputable def L_lw_FnHubs_6 (k : (List (List (Int))) × ((List (List (Int))) × ((Int) × ((Bool) × ((Bool) × (Int)))))) (v : (Int) × (Int)) : Option (Int) := iter (fun v => (S_lw_FnHubs_6 k v).ev) v
noncomputable def DL_lw_FnHubs_6 : LD where
  head := { acts := [], S := { slots := [3, 4, 7, 44, 45, 46, 47, 48], sh := (.cons (.dat (.slice (.slice (.int .i64)))) (.cons (.dat (.slice (.slice (.int .i64)))) (.cons (.dat (.int .i64)) (.cons (.dat .bool) (.cons (.dat .bool) (.cons (.dat (.int .i64)) (.cons (.dat (.int .i64)) (.cons (.dat (.int .i64)) .nil)))))))), obs := [] } }
  exits := [(6, { acts := [], S := { slots := [3, 4, 7, 44, 45, 46, 47], sh := (.cons (.dat (.slice (.slice (.int .i64)))) (.cons (.dat (.slice (.slice (.int .i64)))) (.cons (.dat (.int .i64)) (.cons (.dat .bool) (.cons (.dat .bool) (.cons (.dat (.int .i64)) (.cons (.dat (.int .i64)) .nil))))))), obs := [] } })]
  rets := { acts := [], S := { slots := [], sh := .nil, obs := [] } }
  K := (List (List (Int))) × ((List (List (Int))) × ((Int) × ((Bool) × ((Bool) × (Int)))))
  V := (Int) × (Int)
  R := Int
  join := fun k v => ((k.1, (k.2.1, (k.2.2.1, (k.2.2.2.1, (k.2.2.2.2.1, (v.1, (k.2.2.2.2.2, (v.2, ())))))))), ())
  sk := fun t => (t.1.1, (t.1.2.1, (t.1.2.2.1, (t.1.2.2.2.1, (t.1.2.2.2.2.1, t.1.2.2.2.2.2.2.1)))))
  sv := fun t => (t.1.2.2.2.2.2.1, t.1.2.2.2.2.2.2.2.1)
  step := S_lw_FnHubs_6
  leaf := fun k r => .l (.exit 6 (mkSt ({ slots := [3, 4, 7, 44, 45, 46, 47], sh := (.cons (.dat (.slice (.slice (.int .i64)))) (.cons (.dat (.slice (.slice (.int .i64)))) (.cons (.dat (.int .i64)) (.cons (.dat .bool) (.cons (.dat .bool) (.cons (.dat (.int .i64)) (.cons (.dat (.int .i64)) .nil))))))), obs := [] }) ((k.1, (k.2.1, (k.2.2.1, (k.2.2.2.1, (k.2.2.2.2.1, (r, (k.2.2.2.2.2, ()))))))), ())))
noncomputable def S_lw_FnHubs_4 (k : (List (List (Int))) × ((List (List (Int))) × ((Int) × ((Bool) × (Bool))))) (v : (Int) × (Int)) : Tr (((Int) × (Int)) ⊕ (Int)) :=
  .t (decide (v.2 < ((List.length k.1 : Nat) : Int)))
    (.c (Int) (L_lw_FnHubs_6 (k.1, (k.2.1, (k.2.2.1, (k.2.2.2.1, (k.2.2.2.2, v.2))))) (v.1, (0 : Int))) fun r92_ =>
      .l (.inl (r92_, (IntKind.wrap .i64 (v.2 + (1 : Int))))))
    (.l (.inr v.1))
noncomputable def L_lw_FnHubs_4 (k : (List (List (Int))) × ((List (List (Int))) × ((Int) × ((Bool) × (Bool))))) (v : (Int) × (Int)) : Option (Int) := iter (fun v => (S_lw_FnHubs_4 k v).ev) v
noncomputable def DL_lw_FnHubs_4 : LD where
  head := { acts := [], S := { slots := [3, 4, 7, 44, 45, 46, 47], sh := (.cons (.dat (.slice (.slice (.int .i64)))) (.cons (.dat (.slice (.slice (.int .i64)))) (.cons (.dat (.int .i64)) (.cons (.dat .bool) (.cons (.dat .bool) (.cons (.dat (.int .i64)) (.cons (.dat (.int .i64)) .nil))))))), obs := [] } }
  exits := [(4, { acts := [], S := { slots := [7, 44, 45, 46], sh := (.cons (.dat (.int .i64)) (.cons (.dat .bool) (.cons (.dat .bool) (.cons (.dat (.int .i64)) .nil)))), obs := [] } })]
  rets := { acts := [], S := { slots := [], sh := .nil, obs := [] } }
  K := (List (List (Int))) × ((List (List (Int))) × ((Int) × ((Bool) × (Bool))))
  V := (Int) × (Int)
  R := Int
  join := fun k v => ((k.1, (k.2.1, (k.2.2.1, (k.2.2.2.1, (k.2.2.2.2, (v.1, (v.2, ()))))))), ())
  sk := fun t => (t.1.1, (t.1.2.1, (t.1.2.2.1, (t.1.2.2.2.1, t.1.2.2.2.2.1))))
  sv := fun t => (t.1.2.2.2.2.2.1, t.1.2.2.2.2.2.2.1)
  step := S_lw_FnHubs_4
  leaf := fun k r => .l (.exit 4 (mkSt ({ slots := [7, 44, 45, 46], sh := (.cons (.dat (.int .i64)) (.cons (.dat .bool) (.cons (.dat .bool) (.cons (.dat (.int .i64)) .nil)))), obs := [] }) ((k.2.2.1, (k.2.2.2.1, (k.2.2.2.2, (r, ())))), ())))
noncomputable def T_lw_FnHubs (a1_ : List (Int)) : Tr (Bool) :=
  .c (Bool) (F_lw_rBig a1_) fun r1_ =>
  .t r1_
    (.l true)
    (.c ((List (List (Int))) × ((List (List (Int))) × ((Int) × (List (Int))))) (F_sp_DrawHubCost a1_) fun r2_ =>
      .c ((Int) × (Bool)) (F_im_HubCost r2_.1 r2_.2.1 r2_.2.2.2 r2_.2.2.1) fun r3_ =>
      .c ((Int) × (Bool)) (F_sp_HubCost r2_.1 r2_.2.1 r2_.2.2.2 r2_.2.2.1) fun r4_ =>
      .t (r3_.1 != r4_.1)
        (.l false)
        (.t (!(r3_.2 == r4_.2))
            (.l false)
            (.c ((Bool) × (Bool)) (F_im_IsAllocation r2_.1 r2_.2.2.2) fun r5_ =>
              .c ((Bool) × (Bool)) (F_sp_IsAllocation r2_.1 r2_.2.2.2) fun r6_ =>
              .t (!(r5_.1 == r6_.1))
                (.l false)
                (.t (!(r5_.2 == r6_.2))
                    (.l false)
                    (.t r3_.2
                        (.t (!r5_.1)
                            (.l false)
                            (.c ((List (List (Int))) × (List (Int))) (F_sp_DrawIsAllocation a1_) fun r7_ =>
                              .c ((Bool) × (Bool)) (F_im_IsAllocation r7_.1 r7_.2) fun r8_ =>
                              .c ((Bool) × (Bool)) (F_sp_IsAllocation r7_.1 r7_.2) fun r9_ =>
                              .t (!(r8_.1 == r9_.1))
                                (.l false)
                                (.t (!(r8_.2 == r9_.2))
                                    (.l false)
                                    (.c ((List (List (Int))) × ((List (List (Int))) × ((Int) × (Int)))) (F_sp_DrawBestHubs a1_) fun r10_ =>
                                      .c ((Bool) × (List (Int))) (F_im_BestHubs r10_.1 r10_.2.1 r10_.2.2.1 r10_.2.2.2) fun r11_ =>
                                      .c ((List (Int)) × (Bool)) (F_sp_BestHubs r10_.1 r10_.2.1 r10_.2.2.1 r10_.2.2.2) fun r12_ =>
                                      .t (!(r11_.1 == r12_.2))
                                        (.l false)
                                        (.c (Bool) (F_lw_rInts r11_.2 r12_.1) fun r13_ =>
                                          .t (!r13_)
                                            (.l false)
                                            (.t r11_.1
                                                (.c ((Int) × (Bool)) (F_im_HubCost r10_.1 r10_.2.1 r11_.2 r10_.2.2.2) fun r14_ =>
                                                  .t (!r14_.2)
                                                    (.l false)
                                                    (.c (List (Int)) (F_lw_rSorted r11_.2) fun r15_ =>
                                                      .t (decide (r10_.2.2.1 < ((List.length r15_ : Nat) : Int)))
                                                        (.l false)
                                                        (.t (decide ((1 : Int) < r10_.2.2.1))
                                                            (.c ((Bool) × (List (Int))) (F_im_BestHubs r10_.1 r10_.2.1 (IntKind.wrap .i64 (r10_.2.2.1 - (1 : Int))) r10_.2.2.2) fun r16_ =>
                                                              .c ((Int) × (Bool)) (F_im_HubCost r10_.1 r10_.2.1 r16_.2 r10_.2.2.2) fun r17_ =>
                                                              .t (!r16_.1)
                                                                (.l false)
                                                                (.t (!r17_.2)
                                                                    (.l false)
                                                                    (.t (decide (r17_.1 < r14_.1))
                                                                        (.l false)
                                                                        (.t (decide ((0 : Int) < ((List.length r10_.1 : Nat) : Int)))
                                                                            (.c ((Unit) ⊕ (Unit)) (L_lw_FnHubs_0 (r2_.1, (r2_.2.1, (r2_.2.2.1, (r3_.1, (r3_.2, (r10_.1, (r10_.2.1, (r10_.2.2.2, (r14_.1, r2_.2.2.2))))))))) (0 : Int)) fun r63_ =>
                                                                              .s (Unit) (Unit) r63_
                                                                                (fun _ => .t (!r3_.2)
                                                                                    (.l true)
                                                                                    (.t (decide ((0 : Int) < ((List.length r2_.1 : Nat) : Int)))
                                                                                        (.c (List (Int)) (F_lw_rSorted r2_.2.2.2) fun r66_ =>
                                                                                          .c ((Bool) × (List (Int))) (F_im_BestHubs r2_.1 r2_.2.1 ((List.length r66_ : Nat) : Int) r2_.2.2.1) fun r67_ =>
                                                                                          .c ((Int) × (Bool)) (F_im_HubCost r2_.1 r2_.2.1 r67_.2 r2_.2.2.1) fun r68_ =>
                                                                                          .t (!r67_.1)
                                                                                            (.l false)
                                                                                            (.t (!r68_.2)
                                                                                                (.l false)
                                                                                                (.t (decide (r3_.1 < r68_.1))
                                                                                                    (.l false)
                                                                                                    (.t (r2_.2.2.1 != (10 : Int))
                                                                                                        (.l true)
                                                                                                        (.c ((Bool) × (Bool)) (F_im_IsMetricGround r2_.1) fun r69_ =>
                                                                                                          .c (Int) (L_lw_FnHubs_4 (r2_.1, (r2_.2.1, (r3_.1, (r69_.1, r69_.2)))) ((0 : Int), (0 : Int))) fun r97_ =>
                                                                                                          .t r69_.2
                                                                                                            (.t (!r69_.1)
                                                                                                                (.l true)
                                                                                                                (.l (decide (r97_ ≤ r3_.1))))
                                                                                                            (.l false))))))
                                                                                        (.t (r2_.2.2.1 != (10 : Int))
                                                                                            (.l true)
                                                                                            (.c ((Bool) × (Bool)) (F_im_IsMetricGround r2_.1) fun r98_ =>
                                                                                              .c (Int) (L_lw_FnHubs_4 (r2_.1, (r2_.2.1, (r3_.1, (r98_.1, r98_.2)))) ((0 : Int), (0 : Int))) fun r99_ =>
                                                                                              .t r98_.2
                                                                                                (.t (!r98_.1)
                                                                                                    (.l true)
                                                                                                    (.l (decide (r99_ ≤ r3_.1))))
                                                                                                (.l false)))))
                                                                                (fun _ => .l false))
                                                                            (.t (!r3_.2)
                                                                                (.l true)
                                                                                (.t (decide ((0 : Int) < ((List.length r2_.1 : Nat) : Int)))
                                                                                    (.c (List (Int)) (F_lw_rSorted r2_.2.2.2) fun r100_ =>
                                                                                      .c ((Bool) × (List (Int))) (F_im_BestHubs r2_.1 r2_.2.1 ((List.length r100_ : Nat) : Int) r2_.2.2.1) fun r101_ =>
                                                                                      .c ((Int) × (Bool)) (F_im_HubCost r2_.1 r2_.2.1 r101_.2 r2_.2.2.1) fun r102_ =>
                                                                                      .t (!r101_.1)
                                                                                        (.l false)
                                                                                        (.t (!r102_.2)
                                                                                            (.l false)
                                                                                            (.t (decide (r3_.1 < r102_.1))
                                                                                                (.l false)
                                                                                                (.t (r2_.2.2.1 != (10 : Int))
                                                                                                    (.l true)
                                                                                                    (.c ((Bool) × (Bool)) (F_im_IsMetricGround r2_.1) fun r103_ =>
                                                                                                      .c (Int) (L_lw_FnHubs_4 (r2_.1, (r2_.2.1, (r3_.1, (r103_.1, r103_.2)))) ((0 : Int), (0 : Int))) fun r104_ =>
                                                                                                      .t r103_.2
                                                                                                        (.t (!r103_.1)
                                                                                                            (.l true)
                                                                                                            (.l (decide (r104_ ≤ r3_.1))))
                                                                                                        (.l false))))))
                                                                                    (.t (r2_.2.2.1 != (10 : Int))
                                                                                        (.l true)
                                                                                        (.c ((Bool) × (Bool)) (F_im_IsMetricGround r2_.1) fun r105_ =>
                                                                                          .c (Int) (L_lw_FnHubs_4 (r2_.1, (r2_.2.1, (r3_.1, (r105_.1, r105_.2)))) ((0 : Int), (0 : Int))) fun r106_ =>
                                                                                          .t r105_.2
                                                                                            (.t (!r105_.1)
                                                                                                (.l true)
                                                                                                (.l (decide (r106_ ≤ r3_.1))))
                                                                                            (.l false)))))))))
                                                            (.t (decide ((0 : Int) < ((List.length r10_.1 : Nat) : Int)))
                                                                (.c ((Unit) ⊕ (Unit)) (L_lw_FnHubs_0 (r2_.1, (r2_.2.1, (r2_.2.2.1, (r3_.1, (r3_.2, (r10_.1, (r10_.2.1, (r10_.2.2.2, (r14_.1, r2_.2.2.2))))))))) (0 : Int)) fun r107_ =>
                                                                  .s (Unit) (Unit) r107_
                                                                    (fun _ => .t (!r3_.2)
                                                                        (.l true)
                                                                        (.t (decide ((0 : Int) < ((List.length r2_.1 : Nat) : Int)))
                                                                            (.c (List (Int)) (F_lw_rSorted r2_.2.2.2) fun r110_ =>
                                                                              .c ((Bool) × (List (Int))) (F_im_BestHubs r2_.1 r2_.2.1 ((List.length r110_ : Nat) : Int) r2_.2.2.1) fun r111_ =>
                                                                              .c ((Int) × (Bool)) (F_im_HubCost r2_.1 r2_.2.1 r111_.2 r2_.2.2.1) fun r112_ =>
                                                                              .t (!r111_.1)
                                                                                (.l false)
                                                                                (.t (!r112_.2)
                                                                                    (.l false)
                                                                                    (.t (decide (r3_.1 < r112_.1))
                                                                                        (.l false)
                                                                                        (.t (r2_.2.2.1 != (10 : Int))
                                                                                            (.l true)
                                                                                            (.c ((Bool) × (Bool)) (F_im_IsMetricGround r2_.1) fun r113_ =>
                                                                                              .c (Int) (L_lw_FnHubs_4 (r2_.1, (r2_.2.1, (r3_.1, (r113_.1, r113_.2)))) ((0 : Int), (0 : Int))) fun r114_ =>
                                                                                              .t r113_.2
                                                                                                (.t (!r113_.1)
                                                                                                    (.l true)
                                                                                                    (.l (decide (r114_ ≤ r3_.1))))
                                                                                                (.l false))))))
                                                                            (.t (r2_.2.2.1 != (10 : Int))
                                                                                (.l true)
                                                                                (.c ((Bool) × (Bool)) (F_im_IsMetricGround r2_.1) fun r115_ =>
                                                                                  .c (Int) (L_lw_FnHubs_4 (r2_.1, (r2_.2.1, (r3_.1, (r115_.1, r115_.2)))) ((0 : Int), (0 : Int))) fun r116_ =>
                                                                                  .t r115_.2
                                                                                    (.t (!r115_.1)
                                                                                        (.l true)
                                                                                        (.l (decide (r116_ ≤ r3_.1))))
                                                                                    (.l false)))))
                                                                    (fun _ => .l false))
                                                                (.t (!r3_.2)
                                                                    (.l true)
                                                                    (.t (decide ((0 : Int) < ((List.length r2_.1 : Nat) : Int)))
                                                                        (.c (List (Int)) (F_lw_rSorted r2_.2.2.2) fun r117_ =>
                                                                          .c ((Bool) × (List (Int))) (F_im_BestHubs r2_.1 r2_.2.1 ((List.length r117_ : Nat) : Int) r2_.2.2.1) fun r118_ =>
                                                                          .c ((Int) × (Bool)) (F_im_HubCost r2_.1 r2_.2.1 r118_.2 r2_.2.2.1) fun r119_ =>
                                                                          .t (!r118_.1)
                                                                            (.l false)
                                                                            (.t (!r119_.2)
                                                                                (.l false)
                                                                                (.t (decide (r3_.1 < r119_.1))
                                                                                    (.l false)
                                                                                    (.t (r2_.2.2.1 != (10 : Int))
                                                                                        (.l true)
                                                                                        (.c ((Bool) × (Bool)) (F_im_IsMetricGround r2_.1) fun r120_ =>
                                                                                          .c (Int) (L_lw_FnHubs_4 (r2_.1, (r2_.2.1, (r3_.1, (r120_.1, r120_.2)))) ((0 : Int), (0 : Int))) fun r121_ =>
                                                                                          .t r120_.2
                                                                                            (.t (!r120_.1)
                                                                                                (.l true)
                                                                                                (.l (decide (r121_ ≤ r3_.1))))
                                                                                            (.l false))))))
                                                                        (.t (r2_.2.2.1 != (10 : Int))
                                                                            (.l true)
                                                                            (.c ((Bool) × (Bool)) (F_im_IsMetricGround r2_.1) fun r122_ =>
                                                                              .c (Int) (L_lw_FnHubs_4 (r2_.1, (r2_.2.1, (r3_.1, (r122_.1, r122_.2)))) ((0 : Int), (0 : Int))) fun r123_ =>
                                                                              .t r122_.2
                                                                                (.t (!r122_.1)
                                                                                    (.l true)
                                                                                    (.l (decide (r123_ ≤ r3_.1))))
                                                                                (.l false)))))))))
                                                (.t (!r3_.2)
                                                    (.l true)
                                                    (.t (decide ((0 : Int) < ((List.length r2_.1 : Nat) : Int)))
                                                        (.c (List (Int)) (F_lw_rSorted r2_.2.2.2) fun r124_ =>
                                                          .c ((Bool) × (List (Int))) (F_im_BestHubs r2_.1 r2_.2.1 ((List.length r124_ : Nat) : Int) r2_.2.2.1) fun r125_ =>
                                                          .c ((Int) × (Bool)) (F_im_HubCost r2_.1 r2_.2.1 r125_.2 r2_.2.2.1) fun r126_ =>
                                                          .t (!r125_.1)
                                                            (.l false)
                                                            (.t (!r126_.2)
                                                                (.l false)
                                                                (.t (decide (r3_.1 < r126_.1))
                                                                    (.l false)
                                                                    (.t (r2_.2.2.1 != (10 : Int))
                                                                        (.l true)
                                                                        (.c ((Bool) × (Bool)) (F_im_IsMetricGround r2_.1) fun r127_ =>
                                                                          .c (Int) (L_lw_FnHubs_4 (r2_.1, (r2_.2.1, (r3_.1, (r127_.1, r127_.2)))) ((0 : Int), (0 : Int))) fun r128_ =>
                                                                          .t r127_.2
                                                                            (.t (!r127_.1)
                                                                                (.l true)
                                                                                (.l (decide (r128_ ≤ r3_.1))))
                                                                            (.l false))))))
                                                        (.t (r2_.2.2.1 != (10 : Int))
                                                            (.l true)
                                                            (.c ((Bool) × (Bool)) (F_im_IsMetricGround r2_.1) fun r129_ =>
                                                              .c (Int) (L_lw_FnHubs_4 (r2_.1, (r2_.2.1, (r3_.1, (r129_.1, r129_.2)))) ((0 : Int), (0 : Int))) fun r130_ =>
                                                              .t r129_.2
                                                                (.t (!r129_.1)
                                                                    (.l true)
                                                                    (.l (decide (r130_ ≤ r3_.1))))
                                                                (.l false)))))))))))
                        (.c ((List (List (Int))) × (List (Int))) (F_sp_DrawIsAllocation a1_) fun r131_ =>
                          .c ((Bool) × (Bool)) (F_im_IsAllocation r131_.1 r131_.2) fun r132_ =>
                          .c ((Bool) × (Bool)) (F_sp_IsAllocation r131_.1 r131_.2) fun r133_ =>
                          .t (!(r132_.1 == r133_.1))
                            (.l false)
                            (.t (!(r132_.2 == r133_.2))
                                (.l false)
                                (.c ((List (List (Int))) × ((List (List (Int))) × ((Int) × (Int)))) (F_sp_DrawBestHubs a1_) fun r134_ =>
                                  .c ((Bool) × (List (Int))) (F_im_BestHubs r134_.1 r134_.2.1 r134_.2.2.1 r134_.2.2.2) fun r135_ =>
                                  .c ((List (Int)) × (Bool)) (F_sp_BestHubs r134_.1 r134_.2.1 r134_.2.2.1 r134_.2.2.2) fun r136_ =>
                                  .t (!(r135_.1 == r136_.2))
                                    (.l false)
                                    (.c (Bool) (F_lw_rInts r135_.2 r136_.1) fun r137_ =>
                                      .t (!r137_)
                                        (.l false)
                                        (.t r135_.1
                                            (.c ((Int) × (Bool)) (F_im_HubCost r134_.1 r134_.2.1 r135_.2 r134_.2.2.2) fun r138_ =>
                                              .t (!r138_.2)
                                                (.l false)
                                                (.c (List (Int)) (F_lw_rSorted r135_.2) fun r139_ =>
                                                  .t (decide (r134_.2.2.1 < ((List.length r139_ : Nat) : Int)))
                                                    (.l false)
                                                    (.t (decide ((1 : Int) < r134_.2.2.1))
                                                        (.c ((Bool) × (List (Int))) (F_im_BestHubs r134_.1 r134_.2.1 (IntKind.wrap .i64 (r134_.2.2.1 - (1 : Int))) r134_.2.2.2) fun r140_ =>
                                                          .c ((Int) × (Bool)) (F_im_HubCost r134_.1 r134_.2.1 r140_.2 r134_.2.2.2) fun r141_ =>
                                                          .t (!r140_.1)
                                                            (.l false)
                                                            (.t (!r141_.2)
                                                                (.l false)
                                                                (.t (decide (r141_.1 < r138_.1))
                                                                    (.l false)
                                                                    (.t (decide ((0 : Int) < ((List.length r134_.1 : Nat) : Int)))
                                                                        (.c ((Unit) ⊕ (Unit)) (L_lw_FnHubs_0 (r2_.1, (r2_.2.1, (r2_.2.2.1, (r3_.1, (r3_.2, (r134_.1, (r134_.2.1, (r134_.2.2.2, (r138_.1, r2_.2.2.2))))))))) (0 : Int)) fun r142_ =>
                                                                          .s (Unit) (Unit) r142_
                                                                            (fun _ => .t (!r3_.2)
                                                                                (.l true)
                                                                                (.t (decide ((0 : Int) < ((List.length r2_.1 : Nat) : Int)))
                                                                                    (.c (List (Int)) (F_lw_rSorted r2_.2.2.2) fun r145_ =>
                                                                                      .c ((Bool) × (List (Int))) (F_im_BestHubs r2_.1 r2_.2.1 ((List.length r145_ : Nat) : Int) r2_.2.2.1) fun r146_ =>
                                                                                      .c ((Int) × (Bool)) (F_im_HubCost r2_.1 r2_.2.1 r146_.2 r2_.2.2.1) fun r147_ =>
                                                                                      .t (!r146_.1)
                                                                                        (.l false)
                                                                                        (.t (!r147_.2)
                                                                                            (.l false)
                                                                                            (.t (decide (r3_.1 < r147_.1))
                                                                                                (.l false)
                                                                                                (.t (r2_.2.2.1 != (10 : Int))
                                                                                                    (.l true)
                                                                                                    (.c ((Bool) × (Bool)) (F_im_IsMetricGround r2_.1) fun r148_ =>
                                                                                                      .c (Int) (L_lw_FnHubs_4 (r2_.1, (r2_.2.1, (r3_.1, (r148_.1, r148_.2)))) ((0 : Int), (0 : Int))) fun r149_ =>
                                                                                                      .t r148_.2
                                                                                                        (.t (!r148_.1)
                                                                                                            (.l true)
                                                                                                            (.l (decide (r149_ ≤ r3_.1))))
                                                                                                        (.l false))))))
                                                                                    (.t (r2_.2.2.1 != (10 : Int))
                                                                                        (.l true)
                                                                                        (.c ((Bool) × (Bool)) (F_im_IsMetricGround r2_.1) fun r150_ =>
                                                                                          .c (Int) (L_lw_FnHubs_4 (r2_.1, (r2_.2.1, (r3_.1, (r150_.1, r150_.2)))) ((0 : Int), (0 : Int))) fun r151_ =>
                                                                                          .t r150_.2
                                                                                            (.t (!r150_.1)
                                                                                                (.l true)
                                                                                                (.l (decide (r151_ ≤ r3_.1))))
                                                                                            (.l false)))))
                                                                            (fun _ => .l false))
                                                                        (.t (!r3_.2)
                                                                            (.l true)
                                                                            (.t (decide ((0 : Int) < ((List.length r2_.1 : Nat) : Int)))
                                                                                (.c (List (Int)) (F_lw_rSorted r2_.2.2.2) fun r152_ =>
                                                                                  .c ((Bool) × (List (Int))) (F_im_BestHubs r2_.1 r2_.2.1 ((List.length r152_ : Nat) : Int) r2_.2.2.1) fun r153_ =>
                                                                                  .c ((Int) × (Bool)) (F_im_HubCost r2_.1 r2_.2.1 r153_.2 r2_.2.2.1) fun r154_ =>
                                                                                  .t (!r153_.1)
                                                                                    (.l false)
                                                                                    (.t (!r154_.2)
                                                                                        (.l false)
                                                                                        (.t (decide (r3_.1 < r154_.1))
                                                                                            (.l false)
                                                                                            (.t (r2_.2.2.1 != (10 : Int))
                                                                                                (.l true)
                                                                                                (.c ((Bool) × (Bool)) (F_im_IsMetricGround r2_.1) fun r155_ =>
                                                                                                  .c (Int) (L_lw_FnHubs_4 (r2_.1, (r2_.2.1, (r3_.1, (r155_.1, r155_.2)))) ((0 : Int), (0 : Int))) fun r156_ =>
                                                                                                  .t r155_.2
                                                                                                    (.t (!r155_.1)
                                                                                                        (.l true)
                                                                                                        (.l (decide (r156_ ≤ r3_.1))))
                                                                                                    (.l false))))))
                                                                                (.t (r2_.2.2.1 != (10 : Int))
                                                                                    (.l true)
                                                                                    (.c ((Bool) × (Bool)) (F_im_IsMetricGround r2_.1) fun r157_ =>
                                                                                      .c (Int) (L_lw_FnHubs_4 (r2_.1, (r2_.2.1, (r3_.1, (r157_.1, r157_.2)))) ((0 : Int), (0 : Int))) fun r158_ =>
                                                                                      .t r157_.2
                                                                                        (.t (!r157_.1)
                                                                                            (.l true)
                                                                                            (.l (decide (r158_ ≤ r3_.1))))
                                                                                        (.l false)))))))))
                                                        (.t (decide ((0 : Int) < ((List.length r134_.1 : Nat) : Int)))
                                                            (.c ((Unit) ⊕ (Unit)) (L_lw_FnHubs_0 (r2_.1, (r2_.2.1, (r2_.2.2.1, (r3_.1, (r3_.2, (r134_.1, (r134_.2.1, (r134_.2.2.2, (r138_.1, r2_.2.2.2))))))))) (0 : Int)) fun r159_ =>
                                                              .s (Unit) (Unit) r159_
                                                                (fun _ => .t (!r3_.2)
                                                                    (.l true)
                                                                    (.t (decide ((0 : Int) < ((List.length r2_.1 : Nat) : Int)))
                                                                        (.c (List (Int)) (F_lw_rSorted r2_.2.2.2) fun r162_ =>
                                                                          .c ((Bool) × (List (Int))) (F_im_BestHubs r2_.1 r2_.2.1 ((List.length r162_ : Nat) : Int) r2_.2.2.1) fun r163_ =>
                                                                          .c ((Int) × (Bool)) (F_im_HubCost r2_.1 r2_.2.1 r163_.2 r2_.2.2.1) fun r164_ =>
                                                                          .t (!r163_.1)
                                                                            (.l false)
                                                                            (.t (!r164_.2)
                                                                                (.l false)
                                                                                (.t (decide (r3_.1 < r164_.1))
                                                                                    (.l false)
                                                                                    (.t (r2_.2.2.1 != (10 : Int))
                                                                                        (.l true)
                                                                                        (.c ((Bool) × (Bool)) (F_im_IsMetricGround r2_.1) fun r165_ =>
                                                                                          .c (Int) (L_lw_FnHubs_4 (r2_.1, (r2_.2.1, (r3_.1, (r165_.1, r165_.2)))) ((0 : Int), (0 : Int))) fun r166_ =>
                                                                                          .t r165_.2
                                                                                            (.t (!r165_.1)
                                                                                                (.l true)
                                                                                                (.l (decide (r166_ ≤ r3_.1))))
                                                                                            (.l false))))))
                                                                        (.t (r2_.2.2.1 != (10 : Int))
                                                                            (.l true)
                                                                            (.c ((Bool) × (Bool)) (F_im_IsMetricGround r2_.1) fun r167_ =>
                                                                              .c (Int) (L_lw_FnHubs_4 (r2_.1, (r2_.2.1, (r3_.1, (r167_.1, r167_.2)))) ((0 : Int), (0 : Int))) fun r168_ =>
                                                                              .t r167_.2
                                                                                (.t (!r167_.1)
                                                                                    (.l true)
                                                                                    (.l (decide (r168_ ≤ r3_.1))))
                                                                                (.l false)))))
                                                                (fun _ => .l false))
                                                            (.t (!r3_.2)
                                                                (.l true)
                                                                (.t (decide ((0 : Int) < ((List.length r2_.1 : Nat) : Int)))
                                                                    (.c (List (Int)) (F_lw_rSorted r2_.2.2.2) fun r169_ =>
                                                                      .c ((Bool) × (List (Int))) (F_im_BestHubs r2_.1 r2_.2.1 ((List.length r169_ : Nat) : Int) r2_.2.2.1) fun r170_ =>
                                                                      .c ((Int) × (Bool)) (F_im_HubCost r2_.1 r2_.2.1 r170_.2 r2_.2.2.1) fun r171_ =>
                                                                      .t (!r170_.1)
                                                                        (.l false)
                                                                        (.t (!r171_.2)
                                                                            (.l false)
                                                                            (.t (decide (r3_.1 < r171_.1))
                                                                                (.l false)
                                                                                (.t (r2_.2.2.1 != (10 : Int))
                                                                                    (.l true)
                                                                                    (.c ((Bool) × (Bool)) (F_im_IsMetricGround r2_.1) fun r172_ =>
                                                                                      .c (Int) (L_lw_FnHubs_4 (r2_.1, (r2_.2.1, (r3_.1, (r172_.1, r172_.2)))) ((0 : Int), (0 : Int))) fun r173_ =>
                                                                                      .t r172_.2
                                                                                        (.t (!r172_.1)
                                                                                            (.l true)
                                                                                            (.l (decide (r173_ ≤ r3_.1))))
                                                                                        (.l false))))))
                                                                    (.t (r2_.2.2.1 != (10 : Int))
                                                                        (.l true)
                                                                        (.c ((Bool) × (Bool)) (F_im_IsMetricGround r2_.1) fun r174_ =>
                                                                          .c (Int) (L_lw_FnHubs_4 (r2_.1, (r2_.2.1, (r3_.1, (r174_.1, r174_.2)))) ((0 : Int), (0 : Int))) fun r175_ =>
                                                                          .t r174_.2
                                                                            (.t (!r174_.1)
                                                                                (.l true)
                                                                                (.l (decide (r175_ ≤ r3_.1))))
                                                                            (.l false)))))))))
                                            (.t (!r3_.2)
                                                (.l true)
                                                (.t (decide ((0 : Int) < ((List.length r2_.1 : Nat) : Int)))
                                                    (.c (List (Int)) (F_lw_rSorted r2_.2.2.2) fun r176_ =>
                                                      .c ((Bool) × (List (Int))) (F_im_BestHubs r2_.1 r2_.2.1 ((List.length r176_ : Nat) : Int) r2_.2.2.1) fun r177_ =>
                                                      .c ((Int) × (Bool)) (F_im_HubCost r2_.1 r2_.2.1 r177_.2 r2_.2.2.1) fun r178_ =>
                                                      .t (!r177_.1)
                                                        (.l false)
                                                        (.t (!r178_.2)
                                                            (.l false)
                                                            (.t (decide (r3_.1 < r178_.1))
                                                                (.l false)
                                                                (.t (r2_.2.2.1 != (10 : Int))
                                                                    (.l true)
                                                                    (.c ((Bool) × (Bool)) (F_im_IsMetricGround r2_.1) fun r179_ =>
                                                                      .c (Int) (L_lw_FnHubs_4 (r2_.1, (r2_.2.1, (r3_.1, (r179_.1, r179_.2)))) ((0 : Int), (0 : Int))) fun r180_ =>
                                                                      .t r179_.2
                                                                        (.t (!r179_.1)
                                                                            (.l true)
                                                                            (.l (decide (r180_ ≤ r3_.1))))
                                                                        (.l false))))))
                                                    (.t (r2_.2.2.1 != (10 : Int))
                                                        (.l true)
                                                        (.c ((Bool) × (Bool)) (F_im_IsMetricGround r2_.1) fun r181_ =>
                                                          .c (Int) (L_lw_FnHubs_4 (r2_.1, (r2_.2.1, (r3_.1, (r181_.1, r181_.2)))) ((0 : Int), (0 : Int))) fun r182_ =>
                                                          .t r181_.2
                                                            (.t (!r181_.1)
                                                                (.l true)
                                                                (.l (decide (r182_ ≤ r3_.1))))
                                                            (.l false)))))))))))))))
noncomputable def F_lw_FnHubs (a1_ : List (Int)) : Option (Bool) := (T_lw_FnHubs a1_).ev
noncomputable def A_lw_FnHubs : Sh := (.cons (.dat (.slice (.int .u8))) .nil)
noncomputable def I_lw_FnHubs : List (Nat × OSh) := []
noncomputable def K_lw_FnHubs : RetK := { acts := [], res := [.tmp 2], sh := (.cons (.dat .bool) .nil), obs := [], pins := [] }
noncomputable def D_lw_FnHubs : FD where
  A := A_lw_FnHubs
  ins := I_lw_FnHubs
  lend := []
  R := Bool
  F := fun x => F_lw_FnHubs x.1.1
  emb := fun r => ([.dat .bool r], [])
noncomputable def E_lw_FnHubs : Env := envOf [(51, D_lw_rBig), (52, D_sp_DrawHubCost), (53, D_im_HubCost), (54, D_sp_HubCost), (55, D_im_IsAllocation), (56, D_sp_IsAllocation), (57, D_sp_DrawIsAllocation), (58, D_sp_DrawBestHubs), (31, D_im_BestHubs), (30, D_sp_BestHubs), (59, D_lw_rInts), (60, D_lw_rSorted), (61, D_im_IsMetricGround)]
noncomputable def Z_lw_FnHubs : Nat → Nat → List Nat := fun _ _ => []
noncomputable def O_lw_FnHubs : List (Nat × LD) := [(2, DL_lw_FnHubs_2), (0, DL_lw_FnHubs_0), (6, DL_lw_FnHubs_6), (4, DL_lw_FnHubs_4)]
noncomputable def C_lw_FnHubs : Code := (f11.body).getD .skip
end Go.Proofs.Ytlemejhffpkbkaa
