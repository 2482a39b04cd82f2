import Derived.Test.YtlmbhkmaflhagaaC3
import Derived.Test.YtlmbhkmaflhagaaProg
namespace Go.Proofs.Ytlmbhkmaflhagaa
open Go.Proofs.Try
noncomputable def T_im_GreedyPlan_1 (a1_ : List (Int)) (a2_ : List (Int)) (a3_ : List (Int)) (a4_ : List (Int)) (a5_ : List (List (List (Int)))) (a6_ : Int) (a7_ : List (Int)) : Tr (Int) :=
 .c (Int) (F_im_Season_move a2_ a3_ a4_ a5_ a6_ a7_ a1_) fun r1_ =>
 .l r1_
noncomputable def F_im_GreedyPlan_1 (a1_ : List (Int)) (a2_ : List (Int)) (a3_ : List (Int)) (a4_ : List (Int)) (a5_ : List (List (List (Int)))) (a6_ : Int) (a7_ : List (Int)) : Option (Int) := (T_im_GreedyPlan_1 a1_ a2_ a3_ a4_ a5_ a6_ a7_).ev
noncomputable def A_im_GreedyPlan_1 : Sh := (.cons (.dat (.slice (.int .i64))) (.cons (.ptr (.cons (.dat (.slice (.int .i64))) (.cons (.dat (.slice (.int .i64))) (.cons (.dat (.slice (.int .i64))) (.cons (.dat (.slice (.slice (.slice (.int .i64))))) .nil))))) (.cons (.ptr (.cons (.dat (.int .i64)) .nil)) (.cons (.ptr (.cons (.dat (.slice (.int .i64))) .nil)) .nil))))
noncomputable def I_im_GreedyPlan_1 : List (Nat × OSh) := []
noncomputable def K_im_GreedyPlan_1 : RetK := { acts := [], res := [.tmp 5], sh := (.cons (.dat (.int .i64)) .nil), obs := [], pins := [] }
noncomputable def D_im_GreedyPlan_1 : FD where
 A := A_im_GreedyPlan_1
 ins := I_im_GreedyPlan_1
 lend := []
 R := Int
 F := fun x => F_im_GreedyPlan_1 x.1.1 x.1.2.1.1 x.1.2.1.2.1 x.1.2.1.2.2.1 x.1.2.1.2.2.2.1 x.1.2.2.1.1 x.1.2.2.2.1.1
 emb := fun r => ([.dat (.int .i64) r], [])
noncomputable def E_im_GreedyPlan_1 : Env := envOf [(86, D_im_Season_move)]
noncomputable def Z_im_GreedyPlan_1 : Nat → Nat → List Nat := fun _ _ => []
noncomputable def O_im_GreedyPlan_1 : List (Nat × LD) := []
noncomputable def C_im_GreedyPlan_1 : Code := (f85.body).getD .skip
noncomputable def F_slices_Clone_Sint_int (a1_ : List (Int)) : Option (List Int) := cloneF a1_
noncomputable def D_slices_Clone_Sint_int : FD := fdClone
noncomputable def S_im_GreedyPlan_0 (k : (Int) × ((List (Int)) × ((List (Int)) × ((List (Int)) × (List (List (List (Int)))))))) (v : (Int) × ((List (List (Int))) × (List (Int)))) : Tr (((Int) × ((List (List (Int))) × (List (Int)))) ⊕ (List (List (Int)))) :=
 .t (decide (v.1 < k.1))
  (.c (List (List (Int))) (F_im_Season_choices k.2.1 k.2.2.1 k.2.2.2.1 k.2.2.2.2 v.1) fun r23_ =>
   .c (List (Int)) (F_im_least r23_ (fun h24_ => Option.bind (F_im_GreedyPlan_1 h24_.1 k.2.1 k.2.2.1 k.2.2.2.1 k.2.2.2.2 v.1 v.2.2) fun y25_ => some y25_)) fun r26_ =>
   .c (List Int) (F_slices_Clone_Sint_int r26_) fun r27_ =>
   .g (decide ((List.length v.2.1 + 1) * 24 ≤ 140737488355328)) <|
   .l (.inl ((IntKind.wrap .i64 (v.1 + (1 : Int))), ((List.set (v.2.1 ++ [[]]) (List.length v.2.1) r27_), r26_))))
  (.l (.inr v.2.1))
noncomputable def L_im_GreedyPlan_0 (k : (Int) × ((List (Int)) × ((List (Int)) × ((List (Int)) × (List (List (List (Int)))))))) (v : (Int) × ((List (List (Int))) × (List (Int)))) : Option (List (List (Int))) := iter (fun v => (S_im_GreedyPlan_0 k v).ev) v
noncomputable def DL_im_GreedyPlan_0 : LD where
 head := { acts := [.fz 11], S := { slots := [1, 4, 5, 14, 15], sh := (.cons (.box 1 0) (.cons (.arr 10) (.cons (.box 5 0) (.cons (.dat (.int .i64)) (.cons (.dat (.int .i64)) .nil))))), obs := [(1, .cells (.cons (.dat (.slice (.int .i64))) (.cons (.dat (.slice (.int .i64))) (.cons (.dat (.slice (.int .i64))) (.cons (.dat (.slice (.slice (.slice (.int .i64))))) .nil))))), (10, .rows 22 3 (.int .i64)), (5, .cells (.cons (.dat (.slice (.int .i64))) .nil))] } }
 exits := [(0, { acts := [], S := { slots := [4], sh := (.cons (.arr 10) .nil), obs := [(10, .rows 22 3 (.int .i64))] } })]
 rets := { acts := [], S := { slots := [], sh := .nil, obs := [] } }
 K := (Int) × ((List (Int)) × ((List (Int)) × ((List (Int)) × (List (List (List (Int)))))))
 V := (Int) × ((List (List (Int))) × (List (Int)))
 R := List (List (Int))
 join := fun k v => (((), ((), ((), (k.1, (v.1, ()))))), ((k.2.1, (k.2.2.1, (k.2.2.2.1, (k.2.2.2.2, ())))), (v.2.1, ((v.2.2, ()), ()))))
 sk := fun t => (t.1.2.2.2.1, (t.2.1.1, (t.2.1.2.1, (t.2.1.2.2.1, t.2.1.2.2.2.1))))
 sv := fun t => (t.1.2.2.2.2.1, (t.2.2.1, t.2.2.2.1.1))
 step := S_im_GreedyPlan_0
 leaf := fun _ r => .l (.exit 0 (mkSt ({ slots := [4], sh := (.cons (.arr 10) .nil), obs := [(10, .rows 22 3 (.int .i64))] }) (((), ()), (r, ()))))
noncomputable def T_im_GreedyPlan (a1_ : List (Int)) (a2_ : List (Int)) (a3_ : List (Int)) (a4_ : List (List (List (Int)))) : Tr ((Bool) × (List (List (Int)))) :=
 .c (Bool) (F_im_IsSeason a1_ a2_ a3_ a4_) fun r1_ =>
 .t (!r1_)
  (.l (false, ([] : List (List (Int)))))
  (.c (List (List (Int))) (L_im_GreedyPlan_0 (((List.length a4_ : Nat) : Int), (a1_, (a2_, (a3_, a4_)))) ((0 : Int), (([] : List (List (Int))), ([] : List (Int))))) fun r29_ =>
   .l (true, r29_))
noncomputable def F_im_GreedyPlan (a1_ : List (Int)) (a2_ : List (Int)) (a3_ : List (Int)) (a4_ : List (List (List (Int)))) : Option ((Bool) × (List (List (Int)))) := (T_im_GreedyPlan a1_ a2_ a3_ a4_).ev
noncomputable def A_im_GreedyPlan : Sh := (.cons (.agg (.cons (.dat (.slice (.int .i64))) (.cons (.dat (.slice (.int .i64))) (.cons (.dat (.slice (.int .i64))) (.cons (.dat (.slice (.slice (.slice (.int .i64))))) .nil))))) .nil)
noncomputable def I_im_GreedyPlan : List (Nat × OSh) := []
noncomputable def K_im_GreedyPlan : RetK := { acts := [.ownR 2 0 22 3 (.int .i64), .ren 10 0], res := [.tmp 2, .tmp 3], sh := (.cons (.arr 0) (.cons (.dat .bool) .nil)), obs := [(0, .rows 22 3 (.int .i64))], pins := [] }
noncomputable def D_im_GreedyPlan : FD where
 A := A_im_GreedyPlan
 ins := I_im_GreedyPlan
 lend := []
 R := (Bool) × (List (List (Int)))
 F := fun x => F_im_GreedyPlan x.1.1.1 x.1.1.2.1 x.1.1.2.2.1 x.1.1.2.2.2.1
 emb := fun r => ([.arr 0, .dat .bool r.1], [(0, .rows 22 3 (.int .i64) r.2 none)])
noncomputable def E_im_GreedyPlan : Env := envOf [(69, D_im_IsSeason), (84, D_im_Season_choices), (83, D_im_least), (87, D_slices_Clone_Sint_int), (85, D_im_GreedyPlan_1)]
noncomputable def Z_im_GreedyPlan : Nat → Nat → List Nat := fun r i => match look [(3, [(0, [1000000])]), (7, [(4, [20])])] r with
 | some l => (look l i).getD []
 | none => []
noncomputable def O_im_GreedyPlan : List (Nat × LD) := [(0, DL_im_GreedyPlan_0)]
noncomputable def C_im_GreedyPlan : Code := (f26.body).getD .skip
noncomputable def S_lw_eqIntS_0 (k : (List (Int)) × (List (Int))) (v : Int) : Tr ((Int) ⊕ ((Unit) ⊕ (Unit))) :=
 .t (decide (v < ((List.length k.1 : Nat) : Int)))
  (.g (inR v (List.length k.1)) <|
   .g (inR v (List.length k.2)) <|
   .t ((List.getD k.1 (Int.toNat v) (0 : Int)) != (List.getD k.2 (Int.toNat v) (0 : Int)))
    (.l (.inr (.inr ())))
    (.l (.inl (IntKind.wrap .i64 (v + (1 : Int))))))
  (.l (.inr (.inl ())))
noncomputable def L_lw_eqIntS_0 (k : (List (Int)) × (List (Int))) (v : Int) : Option ((Unit) ⊕ (Unit)) := iter (fun v => (S_lw_eqIntS_0 k v).ev) v
noncomputable def DL_lw_eqIntS_0 : LD where
 head := { acts := [], S := { slots := [0, 1, 5], sh := (.cons (.dat (.slice (.int .i64))) (.cons (.dat (.slice (.int .i64))) (.cons (.dat (.int .i64)) .nil))), obs := [] } }
 exits := [(0, { acts := [], S := { slots := [], sh := .nil, obs := [] } })]
 rets := { acts := [], S := { slots := [4], sh := (.cons (.dat .bool) .nil), obs := [] } }
 K := (List (Int)) × (List (Int))
 V := Int
 R := (Unit) ⊕ (Unit)
 join := fun k v => ((k.1, (k.2, (v, ()))), ())
 sk := fun t => (t.1.1, t.1.2.1)
 sv := fun t => t.1.2.2.1
 step := S_lw_eqIntS_0
 leaf := fun _ r => .s (Unit) (Unit) r (fun _ => .l (.exit 0 (mkSt ({ slots := [], sh := .nil, obs := [] }) ((), ())))) (fun _ => .l (.ret (mkSt ({ slots := [4], sh := (.cons (.dat .bool) .nil), obs := [] }) ((false, ()), ()))))
noncomputable def T_lw_eqIntS (a1_ : List (Int)) (a2_ : List (Int)) : Tr (Bool) :=
 .t (((List.length a1_ : Nat) : Int) != ((List.length a2_ : Nat) : Int))
  (.l false)
  (.c ((Unit) ⊕ (Unit)) (L_lw_eqIntS_0 (a1_, a2_) (0 : Int)) fun r5_ =>
   .s (Unit) (Unit) r5_
    (fun _ => .l true)
    (fun _ => .l false))
noncomputable def F_lw_eqIntS (a1_ : List (Int)) (a2_ : List (Int)) : Option (Bool) := (T_lw_eqIntS a1_ a2_).ev
noncomputable def A_lw_eqIntS : Sh := (.cons (.dat (.slice (.int .i64))) (.cons (.dat (.slice (.int .i64))) .nil))
noncomputable def I_lw_eqIntS : List (Nat × OSh) := []
noncomputable def K_lw_eqIntS : RetK := { acts := [], res := [.tmp 4], sh := (.cons (.dat .bool) .nil), obs := [], pins := [] }
noncomputable def D_lw_eqIntS : FD where
 A := A_lw_eqIntS
 ins := I_lw_eqIntS
 lend := []
 R := Bool
 F := fun x => F_lw_eqIntS x.1.1 x.1.2.1
 emb := fun r => ([.dat .bool r], [])
noncomputable def E_lw_eqIntS : Env := envOf []
noncomputable def Z_lw_eqIntS : Nat → Nat → List Nat := fun _ _ => []
noncomputable def O_lw_eqIntS : List (Nat × LD) := [(0, DL_lw_eqIntS_0)]
noncomputable def C_lw_eqIntS : Code := (f43.body).getD .skip
noncomputable def S_lw_eqIntSS_0 (k : (List (List (Int))) × (List (List (Int)))) (v : Int) : Tr ((Int) ⊕ ((Unit) ⊕ (Unit))) :=
 .t (decide (v < ((List.length k.1 : Nat) : Int)))
  (.g (inR v (List.length k.1)) <|
   .g (inR v (List.length k.2)) <|
   .c (Bool) (F_lw_eqIntS (List.getD k.1 (Int.toNat v) ([] : List (Int))) (List.getD k.2 (Int.toNat v) ([] : List (Int)))) fun r4_ =>
   .t (!r4_)
    (.l (.inr (.inr ())))
    (.l (.inl (IntKind.wrap .i64 (v + (1 : Int))))))
  (.l (.inr (.inl ())))
noncomputable def L_lw_eqIntSS_0 (k : (List (List (Int))) × (List (List (Int)))) (v : Int) : Option ((Unit) ⊕ (Unit)) := iter (fun v => (S_lw_eqIntSS_0 k v).ev) v
noncomputable def DL_lw_eqIntSS_0 : LD where
 head := { acts := [], S := { slots := [0, 1, 5], sh := (.cons (.dat (.slice (.slice (.int .i64)))) (.cons (.dat (.slice (.slice (.int .i64)))) (.cons (.dat (.int .i64)) .nil))), obs := [] } }
 exits := [(0, { acts := [], S := { slots := [], sh := .nil, obs := [] } })]
 rets := { acts := [], S := { slots := [4], sh := (.cons (.dat .bool) .nil), obs := [] } }
 K := (List (List (Int))) × (List (List (Int)))
 V := Int
 R := (Unit) ⊕ (Unit)
 join := fun k v => ((k.1, (k.2, (v, ()))), ())
 sk := fun t => (t.1.1, t.1.2.1)
 sv := fun t => t.1.2.2.1
 step := S_lw_eqIntSS_0
 leaf := fun _ r => .s (Unit) (Unit) r (fun _ => .l (.exit 0 (mkSt ({ slots := [], sh := .nil, obs := [] }) ((), ())))) (fun _ => .l (.ret (mkSt ({ slots := [4], sh := (.cons (.dat .bool) .nil), obs := [] }) ((false, ()), ()))))
noncomputable def T_lw_eqIntSS (a1_ : List (List (Int))) (a2_ : List (List (Int))) : Tr (Bool) :=
 .t (((List.length a1_ : Nat) : Int) != ((List.length a2_ : Nat) : Int))
  (.l false)
  (.c ((Unit) ⊕ (Unit)) (L_lw_eqIntSS_0 (a1_, a2_) (0 : Int)) fun r6_ =>
   .s (Unit) (Unit) r6_
    (fun _ => .l true)
    (fun _ => .l false))
noncomputable def F_lw_eqIntSS (a1_ : List (List (Int))) (a2_ : List (List (Int))) : Option (Bool) := (T_lw_eqIntSS a1_ a2_).ev
noncomputable def A_lw_eqIntSS : Sh := (.cons (.dat (.slice (.slice (.int .i64)))) (.cons (.dat (.slice (.slice (.int .i64)))) .nil))
noncomputable def I_lw_eqIntSS : List (Nat × OSh) := []
noncomputable def K_lw_eqIntSS : RetK := { acts := [], res := [.tmp 4], sh := (.cons (.dat .bool) .nil), obs := [], pins := [] }
noncomputable def D_lw_eqIntSS : FD where
 A := A_lw_eqIntSS
 ins := I_lw_eqIntSS
 lend := []
 R := Bool
 F := fun x => F_lw_eqIntSS x.1.1 x.1.2.1
 emb := fun r => ([.dat .bool r], [])
noncomputable def E_lw_eqIntSS : Env := envOf [(43, D_lw_eqIntS)]
noncomputable def Z_lw_eqIntSS : Nat → Nat → List Nat := fun _ _ => []
noncomputable def O_lw_eqIntSS : List (Nat × LD) := [(0, DL_lw_eqIntSS_0)]
noncomputable def C_lw_eqIntSS : Code := (f22.body).getD .skip
noncomputable def S_lw_eqIntSSS_0 (k : (List (List (List (Int)))) × (List (List (List (Int))))) (v : Int) : Tr ((Int) ⊕ ((Unit) ⊕ (Unit))) :=
 .t (decide (v < ((List.length k.1 : Nat) : Int)))
  (.g (inR v (List.length k.1)) <|
   .g (inR v (List.length k.2)) <|
   .c (Bool) (F_lw_eqIntSS (List.getD k.1 (Int.toNat v) ([] : List (List (Int)))) (List.getD k.2 (Int.toNat v) ([] : List (List (Int))))) fun r4_ =>
   .t (!r4_)
    (.l (.inr (.inr ())))
    (.l (.inl (IntKind.wrap .i64 (v + (1 : Int))))))
  (.l (.inr (.inl ())))
noncomputable def L_lw_eqIntSSS_0 (k : (List (List (List (Int)))) × (List (List (List (Int))))) (v : Int) : Option ((Unit) ⊕ (Unit)) := iter (fun v => (S_lw_eqIntSSS_0 k v).ev) v
noncomputable def DL_lw_eqIntSSS_0 : LD where
 head := { acts := [], S := { slots := [0, 1, 5], sh := (.cons (.dat (.slice (.slice (.slice (.int .i64))))) (.cons (.dat (.slice (.slice (.slice (.int .i64))))) (.cons (.dat (.int .i64)) .nil))), obs := [] } }
 exits := [(0, { acts := [], S := { slots := [], sh := .nil, obs := [] } })]
 rets := { acts := [], S := { slots := [4], sh := (.cons (.dat .bool) .nil), obs := [] } }
 K := (List (List (List (Int)))) × (List (List (List (Int))))
 V := Int
 R := (Unit) ⊕ (Unit)
 join := fun k v => ((k.1, (k.2, (v, ()))), ())
 sk := fun t => (t.1.1, t.1.2.1)
 sv := fun t => t.1.2.2.1
 step := S_lw_eqIntSSS_0
 leaf := fun _ r => .s (Unit) (Unit) r (fun _ => .l (.exit 0 (mkSt ({ slots := [], sh := .nil, obs := [] }) ((), ())))) (fun _ => .l (.ret (mkSt ({ slots := [4], sh := (.cons (.dat .bool) .nil), obs := [] }) ((false, ()), ()))))
noncomputable def T_lw_eqIntSSS (a1_ : List (List (List (Int)))) (a2_ : List (List (List (Int)))) : Tr (Bool) :=
 .t (((List.length a1_ : Nat) : Int) != ((List.length a2_ : Nat) : Int))
  (.l false)
  (.c ((Unit) ⊕ (Unit)) (L_lw_eqIntSSS_0 (a1_, a2_) (0 : Int)) fun r6_ =>
   .s (Unit) (Unit) r6_
    (fun _ => .l true)
    (fun _ => .l false))
noncomputable def F_lw_eqIntSSS (a1_ : List (List (List (Int)))) (a2_ : List (List (List (Int)))) : Option (Bool) := (T_lw_eqIntSSS a1_ a2_).ev
noncomputable def A_lw_eqIntSSS : Sh := (.cons (.dat (.slice (.slice (.slice (.int .i64))))) (.cons (.dat (.slice (.slice (.slice (.int .i64))))) .nil))
noncomputable def I_lw_eqIntSSS : List (Nat × OSh) := []
noncomputable def K_lw_eqIntSSS : RetK := { acts := [], res := [.tmp 4], sh := (.cons (.dat .bool) .nil), obs := [], pins := [] }
noncomputable def D_lw_eqIntSSS : FD where
 A := A_lw_eqIntSSS
 ins := I_lw_eqIntSSS
 lend := []
 R := Bool
 F := fun x => F_lw_eqIntSSS x.1.1 x.1.2.1
 emb := fun r => ([.dat .bool r], [])
noncomputable def E_lw_eqIntSSS : Env := envOf [(22, D_lw_eqIntSS)]
noncomputable def Z_lw_eqIntSSS : Nat → Nat → List Nat := fun _ _ => []
noncomputable def O_lw_eqIntSSS : List (Nat × LD) := [(0, DL_lw_eqIntSSS_0)]
noncomputable def C_lw_eqIntSSS : Code := (f71.body).getD .skip
noncomputable def T_lw_eqSeason (a1_ : List (Int)) (a2_ : List (Int)) (a3_ : List (Int)) (a4_ : List (List (List (Int)))) (a5_ : List (Int)) (a6_ : List (Int)) (a7_ : List (Int)) (a8_ : List (List (List (Int)))) : Tr (Bool) :=
 .c (Bool) (F_lw_eqIntS a1_ a5_) fun r1_ =>
 .t (!r1_)
  (.l false)
  (.c (Bool) (F_lw_eqIntS a2_ a6_) fun r2_ =>
   .t (!r2_)
    (.l false)
    (.c (Bool) (F_lw_eqIntS a3_ a7_) fun r3_ =>
     .t (!r3_)
      (.l false)
      (.c (Bool) (F_lw_eqIntSSS a4_ a8_) fun r4_ =>
       .t (!r4_)
        (.l false)
        (.l true))))
noncomputable def F_lw_eqSeason (a1_ : List (Int)) (a2_ : List (Int)) (a3_ : List (Int)) (a4_ : List (List (List (Int)))) (a5_ : List (Int)) (a6_ : List (Int)) (a7_ : List (Int)) (a8_ : List (List (List (Int)))) : Option (Bool) := (T_lw_eqSeason a1_ a2_ a3_ a4_ a5_ a6_ a7_ a8_).ev
noncomputable def A_lw_eqSeason : Sh := (.cons (.agg (.cons (.dat (.slice (.int .i64))) (.cons (.dat (.slice (.int .i64))) (.cons (.dat (.slice (.int .i64))) (.cons (.dat (.slice (.slice (.slice (.int .i64))))) .nil))))) (.cons (.agg (.cons (.dat (.slice (.int .i64))) (.cons (.dat (.slice (.int .i64))) (.cons (.dat (.slice (.int .i64))) (.cons (.dat (.slice (.slice (.slice (.int .i64))))) .nil))))) .nil))
noncomputable def I_lw_eqSeason : List (Nat × OSh) := []
noncomputable def K_lw_eqSeason : RetK := { acts := [], res := [.tmp 4], sh := (.cons (.dat .bool) .nil), obs := [], pins := [] }
noncomputable def D_lw_eqSeason : FD where
 A := A_lw_eqSeason
 ins := I_lw_eqSeason
 lend := []
 R := Bool
 F := fun x => F_lw_eqSeason x.1.1.1 x.1.1.2.1 x.1.1.2.2.1 x.1.1.2.2.2.1 x.1.2.1.1 x.1.2.1.2.1 x.1.2.1.2.2.1 x.1.2.1.2.2.2.1
 emb := fun r => ([.dat .bool r], [])
noncomputable def E_lw_eqSeason : Env := envOf [(43, D_lw_eqIntS), (71, D_lw_eqIntSSS)]
noncomputable def Z_lw_eqSeason : Nat → Nat → List Nat := fun _ _ => []
noncomputable def O_lw_eqSeason : List (Nat × LD) := []
noncomputable def C_lw_eqSeason : Code := (f17.body).getD .skip
noncomputable def S_lw_markIntS_0 (_k : Unit) (v : (Int) × ((Int) × (List (Int)))) : Tr (((Int) × ((Int) × (List (Int)))) ⊕ ((Int) × (List (Int)))) :=
 .t (decide (v.2.1 < ((List.length v.2.2 : Nat) : Int)))
  (.g (inR v.2.1 (List.length v.2.2)) <|
   .g (decide ((Int.toNat v.2.1) < List.length v.2.2)) <|
   .l (.inl ((IntKind.wrap .i64 (v.1 + (1 : Int))), ((IntKind.wrap .i64 (v.2.1 + (1 : Int))), (List.set v.2.2 (Int.toNat v.2.1) v.1)))))
  (.l (.inr (v.1, v.2.2)))
noncomputable def L_lw_markIntS_0 (k : Unit) (v : (Int) × ((Int) × (List (Int)))) : Option ((Int) × (List (Int))) := iter (fun v => (S_lw_markIntS_0 k v).ev) v
noncomputable def DL_lw_markIntS_0 : LD where
 head := { acts := [], S := { slots := [0, 1, 5], sh := (.cons (.arr 64) (.cons (.dat (.int .i64)) (.cons (.dat (.int .i64)) .nil))), obs := [(64, .arr 3 (.int .i64))] } }
 exits := [(0, { acts := [], S := { slots := [0, 1], sh := (.cons (.arr 64) (.cons (.dat (.int .i64)) .nil)), obs := [(64, .arr 3 (.int .i64))] } })]
 rets := { acts := [], S := { slots := [], sh := .nil, obs := [] } }
 K := Unit
 V := (Int) × ((Int) × (List (Int)))
 R := (Int) × (List (Int))
 join := fun _ v => (((), (v.1, (v.2.1, ()))), (v.2.2, ()))
 sk := fun _ => ()
 sv := fun t => (t.1.2.1, (t.1.2.2.1, t.2.1))
 step := S_lw_markIntS_0
 leaf := fun _ r => .l (.exit 0 (mkSt ({ slots := [0, 1], sh := (.cons (.arr 64) (.cons (.dat (.int .i64)) .nil)), obs := [(64, .arr 3 (.int .i64))] }) (((), (r.1, ())), (r.2, ()))))
noncomputable def T_lw_markIntS (a2_ : Int) (a1_ : List (Int)) : Tr ((Int) × (List (Int))) :=
 .c ((Int) × (List (Int))) (L_lw_markIntS_0 () (a2_, ((0 : Int), a1_))) fun r6_ =>
 .l (r6_.1, r6_.2)
noncomputable def F_lw_markIntS (a2_ : Int) (a1_ : List (Int)) : Option ((Int) × (List (Int))) := (T_lw_markIntS a2_ a1_).ev
noncomputable def A_lw_markIntS : Sh := (.cons (.arr 64) (.cons (.dat (.int .i64)) .nil))
noncomputable def I_lw_markIntS : List (Nat × OSh) := [(64, .arr 3 (.int .i64))]
noncomputable def K_lw_markIntS : RetK := { acts := [], res := [.tmp 4], sh := (.cons (.dat (.int .i64)) .nil), obs := [(64, .arr 3 (.int .i64))], pins := [(0, 0, 64)] }
noncomputable def D_lw_markIntS : FD where
 A := A_lw_markIntS
 ins := I_lw_markIntS
 lend := [.arg 0]
 R := (Int) × (List (Int))
 F := fun x => F_lw_markIntS x.1.2.1 x.2.1
 emb := fun r => ([.dat (.int .i64) r.1], [(64, .arr 3 (.int .i64) r.2)])
noncomputable def E_lw_markIntS : Env := envOf []
noncomputable def Z_lw_markIntS : Nat → Nat → List Nat := fun _ _ => []
noncomputable def O_lw_markIntS : List (Nat × LD) := [(0, DL_lw_markIntS_0)]
noncomputable def C_lw_markIntS : Code := (f47.body).getD .skip
noncomputable def F_lw_markIntSSS (a2_ : Int) (a1_ : List (List (List (Int)))) : Option (Int) := mark3F a2_ a1_
noncomputable def D_lw_markIntSSS : FD := fdMark3
noncomputable def T_lw_markSeason (a5_ : Int) (a1_ : List (Int)) (a2_ : List (Int)) (a3_ : List (Int)) (a4_ : List (List (List (Int)))) : Tr ((Int) × ((List (Int)) × ((List (Int)) × (List (Int))))) :=
 .c ((Int) × (List (Int))) (F_lw_markIntS a5_ a1_) fun r1_ =>
 .c ((Int) × (List (Int))) (F_lw_markIntS r1_.1 a2_) fun r2_ =>
 .c ((Int) × (List (Int))) (F_lw_markIntS r2_.1 a3_) fun r3_ =>
 .c (Int) (F_lw_markIntSSS r3_.1 a4_) fun r4_ =>
 .l (r4_, (r1_.2, (r2_.2, r3_.2)))
noncomputable def F_lw_markSeason (a5_ : Int) (a1_ : List (Int)) (a2_ : List (Int)) (a3_ : List (Int)) (a4_ : List (List (List (Int)))) : Option ((Int) × ((List (Int)) × ((List (Int)) × (List (Int))))) := (T_lw_markSeason a5_ a1_ a2_ a3_ a4_).ev
noncomputable def A_lw_markSeason : Sh := (.cons (.agg (.cons (.arr 64) (.cons (.arr 65) (.cons (.arr 66) (.cons (.arr 67) .nil))))) (.cons (.dat (.int .i64)) .nil))
noncomputable def I_lw_markSeason : List (Nat × OSh) := [(64, .arr 3 (.int .i64)), (65, .arr 3 (.int .i64)), (66, .arr 3 (.int .i64)), (67, .deep 33 (.slice (.slice (.int .i64))))]
noncomputable def K_lw_markSeason : RetK := { acts := [], res := [.tmp 4], sh := (.cons (.dat (.int .i64)) .nil), obs := [(64, .arr 3 (.int .i64)), (65, .arr 3 (.int .i64)), (66, .arr 3 (.int .i64)), (67, .spent)], pins := [(0, 1, 64), (0, 2, 65), (0, 3, 66), (0, 4, 67)] }
noncomputable def D_lw_markSeason : FD where
 A := A_lw_markSeason
 ins := I_lw_markSeason
 lend := [.comp 0 0, .comp 0 1, .comp 0 2, .comp 0 3]
 R := (Int) × ((List (Int)) × ((List (Int)) × (List (Int))))
 F := fun x => F_lw_markSeason x.1.2.1 x.2.1 x.2.2.1 x.2.2.2.1 x.2.2.2.2.1
 emb := fun r => ([.dat (.int .i64) r.1], [(64, .arr 3 (.int .i64) r.2.1), (65, .arr 3 (.int .i64) r.2.2.1), (66, .arr 3 (.int .i64) r.2.2.2), (67, .spent)])
noncomputable def E_lw_markSeason : Env := envOf [(47, D_lw_markIntS), (88, D_lw_markIntSSS)]
noncomputable def Z_lw_markSeason : Nat → Nat → List Nat := fun _ _ => []
noncomputable def O_lw_markSeason : List (Nat × LD) := []
noncomputable def C_lw_markSeason : Code := (f27.body).getD .skip
noncomputable def S_lw_markIntSS_0 (_k : Unit) (v : (Int) × ((Int) × (List (List (Int))))) : Tr (((Int) × ((Int) × (List (List (Int))))) ⊕ ((Int) × (List (List (Int))))) :=
 .t (decide (v.2.1 < ((List.length v.2.2 : Nat) : Int)))
  (.g (inR v.2.1 (List.length v.2.2)) <|
   .g (decide ((Int.toNat v.2.1) < List.length v.2.2)) <|
   .c ((Int) × (List (Int))) (F_lw_markIntS v.1 (List.getD v.2.2 (Int.toNat v.2.1) ([] : List (Int)))) fun r4_ =>
   .l (.inl (r4_.1, ((IntKind.wrap .i64 (v.2.1 + (1 : Int))), (List.set v.2.2 (Int.toNat v.2.1) r4_.2)))))
  (.l (.inr (v.1, v.2.2)))
noncomputable def L_lw_markIntSS_0 (k : Unit) (v : (Int) × ((Int) × (List (List (Int))))) : Option ((Int) × (List (List (Int)))) := iter (fun v => (S_lw_markIntSS_0 k v).ev) v
noncomputable def DL_lw_markIntSS_0 : LD where
 head := { acts := [.fz 500015], S := { slots := [0, 1, 5], sh := (.cons (.arr 64) (.cons (.dat (.int .i64)) (.cons (.dat (.int .i64)) .nil))), obs := [(64, .rows 22 3 (.int .i64))] } }
 exits := [(0, { acts := [], S := { slots := [0, 1], sh := (.cons (.arr 64) (.cons (.dat (.int .i64)) .nil)), obs := [(64, .rows 22 3 (.int .i64))] } })]
 rets := { acts := [], S := { slots := [], sh := .nil, obs := [] } }
 K := Unit
 V := (Int) × ((Int) × (List (List (Int))))
 R := (Int) × (List (List (Int)))
 join := fun _ v => (((), (v.1, (v.2.1, ()))), (v.2.2, ()))
 sk := fun _ => ()
 sv := fun t => (t.1.2.1, (t.1.2.2.1, t.2.1))
 step := S_lw_markIntSS_0
 leaf := fun _ r => .l (.exit 0 (mkSt ({ slots := [0, 1], sh := (.cons (.arr 64) (.cons (.dat (.int .i64)) .nil)), obs := [(64, .rows 22 3 (.int .i64))] }) (((), (r.1, ())), (r.2, ()))))
noncomputable def T_lw_markIntSS (a2_ : Int) (a1_ : List (List (Int))) : Tr ((Int) × (List (List (Int)))) :=
 .c ((Int) × (List (List (Int)))) (L_lw_markIntSS_0 () (a2_, ((0 : Int), a1_))) fun r7_ =>
 .l (r7_.1, r7_.2)
noncomputable def F_lw_markIntSS (a2_ : Int) (a1_ : List (List (Int))) : Option ((Int) × (List (List (Int)))) := (T_lw_markIntSS a2_ a1_).ev
noncomputable def A_lw_markIntSS : Sh := (.cons (.arr 64) (.cons (.dat (.int .i64)) .nil))
noncomputable def I_lw_markIntSS : List (Nat × OSh) := [(64, .rows 22 3 (.int .i64))]
noncomputable def K_lw_markIntSS : RetK := { acts := [], res := [.tmp 4], sh := (.cons (.dat (.int .i64)) .nil), obs := [(64, .rows 22 3 (.int .i64))], pins := [(0, 0, 64)] }
noncomputable def D_lw_markIntSS : FD where
 A := A_lw_markIntSS
 ins := I_lw_markIntSS
 lend := [.arg 0]
 R := (Int) × (List (List (Int)))
 F := fun x => F_lw_markIntSS x.1.2.1 x.2.1
 emb := fun r => ([.dat (.int .i64) r.1], [(64, .rows 22 3 (.int .i64) r.2 none)])
noncomputable def E_lw_markIntSS : Env := envOf [(47, D_lw_markIntS)]
noncomputable def Z_lw_markIntSS : Nat → Nat → List Nat := fun r i => match look [(4, [(5, [2000015])])] r with
 | some l => (look l i).getD []
 | none => []
noncomputable def O_lw_markIntSS : List (Nat × LD) := [(0, DL_lw_markIntSS_0)]
noncomputable def C_lw_markIntSS : Code := (f28.body).getD .skip
noncomputable def S_lw_heldIntS_0 (k : List (Int)) (v : (Int) × (Int)) : Tr (((Int) × (Int)) ⊕ ((Int) ⊕ (Unit))) :=
 .t (decide (v.2 < ((List.length k : Nat) : Int)))
  (.g (inR v.2 (List.length k)) <|
   .t ((List.getD k (Int.toNat v.2) (0 : Int)) != v.1)
    (.l (.inr (.inr ())))
    (.l (.inl ((IntKind.wrap .i64 (v.1 + (1 : Int))), (IntKind.wrap .i64 (v.2 + (1 : Int)))))))
  (.l (.inr (.inl v.1)))
noncomputable def L_lw_heldIntS_0 (k : List (Int)) (v : (Int) × (Int)) : Option ((Int) ⊕ (Unit)) := iter (fun v => (S_lw_heldIntS_0 k v).ev) v
noncomputable def DL_lw_heldIntS_0 : LD where
 head := { acts := [], S := { slots := [0, 1, 5], sh := (.cons (.dat (.slice (.int .i64))) (.cons (.dat (.int .i64)) (.cons (.dat (.int .i64)) .nil))), obs := [] } }
 exits := [(0, { acts := [], S := { slots := [1], sh := (.cons (.dat (.int .i64)) .nil), obs := [] } })]
 rets := { acts := [], S := { slots := [4], sh := (.cons (.dat (.int .i64)) .nil), obs := [] } }
 K := List (Int)
 V := (Int) × (Int)
 R := (Int) ⊕ (Unit)
 join := fun k v => ((k, (v.1, (v.2, ()))), ())
 sk := fun t => t.1.1
 sv := fun t => (t.1.2.1, t.1.2.2.1)
 step := S_lw_heldIntS_0
 leaf := fun _ r => .s (Int) (Unit) r (fun a => .l (.exit 0 (mkSt ({ slots := [1], sh := (.cons (.dat (.int .i64)) .nil), obs := [] }) ((a, ()), ())))) (fun _ => .l (.ret (mkSt ({ slots := [4], sh := (.cons (.dat (.int .i64)) .nil), obs := [] }) (((-1 : Int), ()), ()))))
noncomputable def T_lw_heldIntS (a1_ : List (Int)) (a2_ : Int) : Tr (Int) :=
 .c ((Int) ⊕ (Unit)) (L_lw_heldIntS_0 a1_ (a2_, (0 : Int))) fun r6_ =>
 .s (Int) (Unit) r6_
  (fun r7_ => .l r7_)
  (fun _ => .l (-1 : Int))
noncomputable def F_lw_heldIntS (a1_ : List (Int)) (a2_ : Int) : Option (Int) := (T_lw_heldIntS a1_ a2_).ev
noncomputable def A_lw_heldIntS : Sh := (.cons (.dat (.slice (.int .i64))) (.cons (.dat (.int .i64)) .nil))
noncomputable def I_lw_heldIntS : List (Nat × OSh) := []
noncomputable def K_lw_heldIntS : RetK := { acts := [], res := [.tmp 4], sh := (.cons (.dat (.int .i64)) .nil), obs := [], pins := [] }
noncomputable def D_lw_heldIntS : FD where
 A := A_lw_heldIntS
 ins := I_lw_heldIntS
 lend := []
 R := Int
 F := fun x => F_lw_heldIntS x.1.1 x.1.2.1
 emb := fun r => ([.dat (.int .i64) r], [])
noncomputable def E_lw_heldIntS : Env := envOf []
noncomputable def Z_lw_heldIntS : Nat → Nat → List Nat := fun _ _ => []
noncomputable def O_lw_heldIntS : List (Nat × LD) := [(0, DL_lw_heldIntS_0)]
noncomputable def C_lw_heldIntS : Code := (f48.body).getD .skip
noncomputable def S_lw_heldIntSS_0 (k : List (List (Int))) (v : (Int) × (Int)) : Tr (((Int) × (Int)) ⊕ ((Int) ⊕ (Unit))) :=
 .t (decide (v.2 < ((List.length k : Nat) : Int)))
  (.g (inR v.2 (List.length k)) <|
   .c (Int) (F_lw_heldIntS (List.getD k (Int.toNat v.2) ([] : List (Int))) v.1) fun r4_ =>
   .t (decide (r4_ < (0 : Int)))
    (.l (.inr (.inr ())))
    (.l (.inl (r4_, (IntKind.wrap .i64 (v.2 + (1 : Int)))))))
  (.l (.inr (.inl v.1)))
noncomputable def L_lw_heldIntSS_0 (k : List (List (Int))) (v : (Int) × (Int)) : Option ((Int) ⊕ (Unit)) := iter (fun v => (S_lw_heldIntSS_0 k v).ev) v
noncomputable def DL_lw_heldIntSS_0 : LD where
 head := { acts := [], S := { slots := [0, 1, 5], sh := (.cons (.dat (.slice (.slice (.int .i64)))) (.cons (.dat (.int .i64)) (.cons (.dat (.int .i64)) .nil))), obs := [] } }
 exits := [(0, { acts := [], S := { slots := [1], sh := (.cons (.dat (.int .i64)) .nil), obs := [] } })]
 rets := { acts := [], S := { slots := [4], sh := (.cons (.dat (.int .i64)) .nil), obs := [] } }
 K := List (List (Int))
 V := (Int) × (Int)
 R := (Int) ⊕ (Unit)
 join := fun k v => ((k, (v.1, (v.2, ()))), ())
 sk := fun t => t.1.1
 sv := fun t => (t.1.2.1, t.1.2.2.1)
 step := S_lw_heldIntSS_0
 leaf := fun _ r => .s (Int) (Unit) r (fun a => .l (.exit 0 (mkSt ({ slots := [1], sh := (.cons (.dat (.int .i64)) .nil), obs := [] }) ((a, ()), ())))) (fun _ => .l (.ret (mkSt ({ slots := [4], sh := (.cons (.dat (.int .i64)) .nil), obs := [] }) (((-1 : Int), ()), ()))))
noncomputable def T_lw_heldIntSS (a1_ : List (List (Int))) (a2_ : Int) : Tr (Int) :=
 .c ((Int) ⊕ (Unit)) (L_lw_heldIntSS_0 a1_ (a2_, (0 : Int))) fun r7_ =>
 .s (Int) (Unit) r7_
  (fun r8_ => .l r8_)
  (fun _ => .l (-1 : Int))
noncomputable def F_lw_heldIntSS (a1_ : List (List (Int))) (a2_ : Int) : Option (Int) := (T_lw_heldIntSS a1_ a2_).ev
noncomputable def A_lw_heldIntSS : Sh := (.cons (.dat (.slice (.slice (.int .i64)))) (.cons (.dat (.int .i64)) .nil))
noncomputable def I_lw_heldIntSS : List (Nat × OSh) := []
noncomputable def K_lw_heldIntSS : RetK := { acts := [], res := [.tmp 4], sh := (.cons (.dat (.int .i64)) .nil), obs := [], pins := [] }
noncomputable def D_lw_heldIntSS : FD where
 A := A_lw_heldIntSS
 ins := I_lw_heldIntSS
 lend := []
 R := Int
 F := fun x => F_lw_heldIntSS x.1.1 x.1.2.1
 emb := fun r => ([.dat (.int .i64) r], [])
noncomputable def E_lw_heldIntSS : Env := envOf [(48, D_lw_heldIntS)]
noncomputable def Z_lw_heldIntSS : Nat → Nat → List Nat := fun _ _ => []
noncomputable def O_lw_heldIntSS : List (Nat × LD) := [(0, DL_lw_heldIntSS_0)]
noncomputable def C_lw_heldIntSS : Code := (f29.body).getD .skip
noncomputable def T_lw_FnExactGreedyPlan (a1_ : List (Int)) (a2_ : List (Int)) (a3_ : List (Int)) (a4_ : List (List (List (Int)))) : Tr (Bool) :=
 .c (Int) (F_lw_szSeason a1_ a2_ a3_ a4_ (1048576 : Int)) fun r1_ =>
 .t (decide (r1_ < (0 : Int)))
  (.l true)
  (.c ((List (Int)) × ((List (Int)) × ((List (Int)) × (List (List (List (Int))))))) (F_lw_toSeason a1_ a2_ a3_ a4_) fun r2_ =>
   .c ((Bool) × (List (List (Int)))) (F_sp_GreedyPlan r2_.1 r2_.2.1 r2_.2.2.1 r2_.2.2.2) fun r3_ =>
   .c ((List (Int)) × ((List (Int)) × ((List (Int)) × (List (List (List (Int))))))) (F_lw_toSeason a1_ a2_ a3_ a4_) fun r4_ =>
   .c ((Bool) × (List (List (Int)))) (F_im_GreedyPlan r4_.1 r4_.2.1 r4_.2.2.1 r4_.2.2.2) fun r5_ =>
   .c (Bool) (F_lw_eqIntSS r5_.2 r3_.2) fun r6_ =>
   .t (!r6_)
    (.l false)
    (.t (!(r5_.1 == r3_.1))
      (.l false)
      (.c ((List (Int)) × ((List (Int)) × ((List (Int)) × (List (List (List (Int))))))) (F_lw_toSeason a1_ a2_ a3_ a4_) fun r7_ =>
       .c (Bool) (F_lw_eqSeason r4_.1 r4_.2.1 r4_.2.2.1 r4_.2.2.2 r7_.1 r7_.2.1 r7_.2.2.1 r7_.2.2.2) fun r8_ =>
       .t (!r8_)
        (.l false)
        (.c ((Int) × ((List (Int)) × ((List (Int)) × (List (Int))))) (F_lw_markSeason (1 : Int) r4_.1 r4_.2.1 r4_.2.2.1 r4_.2.2.2) fun r9_ =>
         .t (decide (r9_.1 < (0 : Int)))
          (.l false)
          (.c (Bool) (F_lw_eqIntSS r5_.2 r3_.2) fun r10_ =>
           .t (!r10_)
            (.l false)
            (.t (!(r5_.1 == r3_.1))
              (.l false)
              (.c ((Int) × (List (List (Int)))) (F_lw_markIntSS (1 : Int) r5_.2) fun r11_ =>
               .c (Int) (F_lw_heldIntSS r11_.2 (1 : Int)) fun r12_ =>
               .t (decide (r12_ < (0 : Int)))
                (.l false)
                (.t (r12_ != r11_.1)
                  (.l false)
                  (.c ((List (Int)) × ((List (Int)) × ((List (Int)) × (List (List (List (Int))))))) (F_lw_toSeason a1_ a2_ a3_ a4_) fun r13_ =>
                   .c ((Bool) × (List (List (Int)))) (F_im_GreedyPlan r13_.1 r13_.2.1 r13_.2.2.1 r13_.2.2.2) fun r14_ =>
                   .c (Bool) (F_lw_eqIntSS r14_.2 r3_.2) fun r15_ =>
                   .t (!r15_)
                    (.l false)
                    (.t (!(r14_.1 == r3_.1))
                      (.l false)
                      (.c (Int) (F_lw_heldIntSS r11_.2 (1 : Int)) fun r16_ =>
                       .t (decide (r16_ < (0 : Int)))
                        (.l false)
                        (.t (r16_ != r11_.1)
                          (.l false)
                          (.l true)))))))))))))
noncomputable def F_lw_FnExactGreedyPlan (a1_ : List (Int)) (a2_ : List (Int)) (a3_ : List (Int)) (a4_ : List (List (List (Int)))) : Option (Bool) := (T_lw_FnExactGreedyPlan a1_ a2_ a3_ a4_).ev
noncomputable def A_lw_FnExactGreedyPlan : Sh := (.cons (.agg (.cons (.dat (.slice (.int .i64))) (.cons (.dat (.slice (.int .i64))) (.cons (.dat (.slice (.int .i64))) (.cons (.dat (.slice (.slice (.slice (.int .i64))))) .nil))))) .nil)
noncomputable def I_lw_FnExactGreedyPlan : List (Nat × OSh) := []
noncomputable def K_lw_FnExactGreedyPlan : RetK := { acts := [], res := [.tmp 2], sh := (.cons (.dat .bool) .nil), obs := [], pins := [] }
noncomputable def D_lw_FnExactGreedyPlan : FD where
 A := A_lw_FnExactGreedyPlan
 ins := I_lw_FnExactGreedyPlan
 lend := []
 R := Bool
 F := fun x => F_lw_FnExactGreedyPlan x.1.1.1 x.1.1.2.1 x.1.1.2.2.1 x.1.1.2.2.2.1
 emb := fun r => ([.dat .bool r], [])
noncomputable def E_lw_FnExactGreedyPlan : Env := envOf [(13, D_lw_szSeason), (15, D_lw_toSeason), (25, D_sp_GreedyPlan), (26, D_im_GreedyPlan), (22, D_lw_eqIntSS), (17, D_lw_eqSeason), (27, D_lw_markSeason), (28, D_lw_markIntSS), (29, D_lw_heldIntSS)]
noncomputable def Z_lw_FnExactGreedyPlan : Nat → Nat → List Nat := fun _ _ => []
noncomputable def O_lw_FnExactGreedyPlan : List (Nat × LD) := []
noncomputable def C_lw_FnExactGreedyPlan : Code := (f6.body).getD .skip
noncomputable def S_sp_l10Code_0 (k : List (Int)) (v : (Int) × (Int)) : Tr (((Int) × (Int)) ⊕ (Int)) :=
 .t (decide (v.2 < ((List.length k : Nat) : Int)))
  (.g (inR v.2 (List.length k)) <|
   .g (decide ((0 : Int) ≤ (List.getD k (Int.toNat v.2) (0 : Int)))) <|
   .l (.inl ((IntKind.wrap .i64 (v.1 + (IntKind.wrap .i64 ((1 : Int) * 2 ^ (min (Int.toNat (List.getD k (Int.toNat v.2) (0 : Int))) (IntKind.bits .i64)))))), (IntKind.wrap .i64 (v.2 + (1 : Int))))))
  (.l (.inr v.1))
noncomputable def L_sp_l10Code_0 (k : List (Int)) (v : (Int) × (Int)) : Option (Int) := iter (fun v => (S_sp_l10Code_0 k v).ev) v
noncomputable def DL_sp_l10Code_0 : LD where
 head := { acts := [], S := { slots := [0, 3, 4], sh := (.cons (.dat (.slice (.int .i64))) (.cons (.dat (.int .i64)) (.cons (.dat (.int .i64)) .nil))), obs := [] } }
 exits := [(0, { acts := [], S := { slots := [3], sh := (.cons (.dat (.int .i64)) .nil), obs := [] } })]
 rets := { acts := [], S := { slots := [], sh := .nil, obs := [] } }
 K := List (Int)
 V := (Int) × (Int)
 R := Int
 join := fun k v => ((k, (v.1, (v.2, ()))), ())
 sk := fun t => t.1.1
 sv := fun t => (t.1.2.1, t.1.2.2.1)
 step := S_sp_l10Code_0
 leaf := fun _ r => .l (.exit 0 (mkSt ({ slots := [3], sh := (.cons (.dat (.int .i64)) .nil), obs := [] }) ((r, ()), ())))
noncomputable def T_sp_l10Code (a1_ : List (Int)) : Tr (Int) :=
 .c (Int) (L_sp_l10Code_0 a1_ ((0 : Int), (0 : Int))) fun r5_ =>
 .l r5_
noncomputable def F_sp_l10Code (a1_ : List (Int)) : Option (Int) := (T_sp_l10Code a1_).ev
noncomputable def A_sp_l10Code : Sh := (.cons (.dat (.slice (.int .i64))) .nil)
noncomputable def I_sp_l10Code : List (Nat × OSh) := []
noncomputable def K_sp_l10Code : RetK := { acts := [], res := [.tmp 2], sh := (.cons (.dat (.int .i64)) .nil), obs := [], pins := [] }
noncomputable def D_sp_l10Code : FD where
 A := A_sp_l10Code
 ins := I_sp_l10Code
 lend := []
 R := Int
 F := fun x => F_sp_l10Code x.1.1
 emb := fun r => ([.dat (.int .i64) r], [])
noncomputable def E_sp_l10Code : Env := envOf []
noncomputable def Z_sp_l10Code : Nat → Nat → List Nat := fun _ _ => []
noncomputable def O_sp_l10Code : List (Nat × LD) := [(0, DL_sp_l10Code_0)]
noncomputable def C_sp_l10Code : Code := (f135.body).getD .skip
noncomputable def S_sp_l10Future_4 (k : (List (List (Int))) × ((Int) × ((Int) × ((List (Int)) × ((List (Int)) × ((List (Int)) × ((List (List (List (Int)))) × ((List (List (Int))) × (List (Int)))))))))) (v : (Int) × (Int)) : Tr (((Int) × (Int)) ⊕ (Int)) :=
 .t (decide (v.2 < ((List.length k.2.2.2.2.2.2.2.1 : Nat) : Int)))
  (.g (inR v.2 (List.length k.2.2.2.2.2.2.2.1)) <|
   .g (decide ((Int.toNat v.2) < List.length k.2.2.2.2.2.2.2.1)) <|
   .c (Bool) (F_sp_l10May k.2.2.2.1 k.2.2.2.2.1 k.2.2.2.2.2.1 k.2.2.2.2.2.2.1 k.2.1 (List.getD k.2.2.2.2.2.2.2.1 (Int.toNat v.2) ([] : List (Int)))) fun r131_ =>
   .t (!r131_)
    (.l (.inl (v.1, (IntKind.wrap .i64 (v.2 + (1 : Int))))))
    (.g (inR k.2.2.1 (List.length k.2.2.2.2.2.2.2.1)) <|
     .g (decide ((Int.toNat k.2.2.1) < List.length k.2.2.2.2.2.2.2.1)) <|
     .g (inR v.2 (List.length k.2.2.2.2.2.2.2.1)) <|
     .g (decide ((Int.toNat v.2) < List.length k.2.2.2.2.2.2.2.1)) <|
     .c (Int) (F_sp_l10Move k.2.2.2.1 k.2.2.2.2.1 k.2.2.2.2.2.1 k.2.2.2.2.2.2.1 k.2.1 (List.getD k.2.2.2.2.2.2.2.1 (Int.toNat k.2.2.1) ([] : List (Int))) (List.getD k.2.2.2.2.2.2.2.1 (Int.toNat v.2) ([] : List (Int)))) fun r132_ =>
     .g (inR (0 : Int) (List.length k.1)) <|
     .g (inR v.2 (List.length k.2.2.2.2.2.2.2.1)) <|
     .g (decide ((Int.toNat v.2) < List.length k.2.2.2.2.2.2.2.1)) <|
     .c (Int) (F_sp_l10Code (List.getD k.2.2.2.2.2.2.2.1 (Int.toNat v.2) ([] : List (Int)))) fun r133_ =>
     .g (inR r133_ (List.length (List.getD k.1 (Int.toNat (0 : Int)) ([] : List (Int))))) <|
     .t (decide (v.1 < (0 : Int)))
      (.l (.inl ((IntKind.wrap .i64 (r132_ + (List.getD (List.getD k.1 (Int.toNat (0 : Int)) ([] : List (Int))) (Int.toNat r133_) (0 : Int)))), (IntKind.wrap .i64 (v.2 + (1 : Int))))))
      (.t (decide ((IntKind.wrap .i64 (r132_ + (List.getD (List.getD k.1 (Int.toNat (0 : Int)) ([] : List (Int))) (Int.toNat r133_) (0 : Int)))) < v.1))
        (.l (.inl ((IntKind.wrap .i64 (r132_ + (List.getD (List.getD k.1 (Int.toNat (0 : Int)) ([] : List (Int))) (Int.toNat r133_) (0 : Int)))), (IntKind.wrap .i64 (v.2 + (1 : Int))))))
        (.l (.inl (v.1, (IntKind.wrap .i64 (v.2 + (1 : Int)))))))))
  (.l (.inr v.1))
noncomputable def L_sp_l10Future_4 (k : (List (List (Int))) × ((Int) × ((Int) × ((List (Int)) × ((List (Int)) × ((List (Int)) × ((List (List (List (Int)))) × ((List (List (Int))) × (List (Int)))))))))) (v : (Int) × (Int)) : Option (Int) := iter (fun v => (S_sp_l10Future_4 k v).ev) v
noncomputable def DL_sp_l10Future_4 : LD where
 head := { acts := [], S := { slots := [1, 3, 4, 5, 6, 7, 8, 9], sh := (.cons (.box 1 0) (.cons (.dat (.slice (.slice (.int .i64)))) (.cons (.arr 1152) (.cons (.dat (.int .i64)) (.cons (.arr 31) (.cons (.dat (.int .i64)) (.cons (.dat (.int .i64)) (.cons (.dat (.int .i64)) .nil)))))))), obs := [(1, .cells (.cons (.dat (.slice (.int .i64))) (.cons (.dat (.slice (.int .i64))) (.cons (.dat (.slice (.int .i64))) (.cons (.dat (.slice (.slice (.slice (.int .i64))))) .nil))))), (1152, .arr 22 (.slice (.int .i64))), (31, .arr 3 (.int .i64))] } }
 exits := [(4, { acts := [], S := { slots := [1, 3, 4, 5, 6, 7, 8], sh := (.cons (.box 1 0) (.cons (.dat (.slice (.slice (.int .i64)))) (.cons (.arr 1152) (.cons (.dat (.int .i64)) (.cons (.arr 31) (.cons (.dat (.int .i64)) (.cons (.dat (.int .i64)) .nil))))))), obs := [(1, .cells (.cons (.dat (.slice (.int .i64))) (.cons (.dat (.slice (.int .i64))) (.cons (.dat (.slice (.int .i64))) (.cons (.dat (.slice (.slice (.slice (.int .i64))))) .nil))))), (1152, .arr 22 (.slice (.int .i64))), (31, .arr 3 (.int .i64))] } })]
 rets := { acts := [], S := { slots := [], sh := .nil, obs := [] } }
 K := (List (List (Int))) × ((Int) × ((Int) × ((List (Int)) × ((List (Int)) × ((List (Int)) × ((List (List (List (Int)))) × ((List (List (Int))) × (List (Int)))))))))
 V := (Int) × (Int)
 R := Int
 join := fun k v => (((), (k.1, ((), (k.2.1, ((), (k.2.2.1, (v.1, (v.2, ())))))))), ((k.2.2.2.1, (k.2.2.2.2.1, (k.2.2.2.2.2.1, (k.2.2.2.2.2.2.1, ())))), (k.2.2.2.2.2.2.2.1, (k.2.2.2.2.2.2.2.2, ()))))
 sk := fun t => (t.1.2.1, (t.1.2.2.2.1, (t.1.2.2.2.2.2.1, (t.2.1.1, (t.2.1.2.1, (t.2.1.2.2.1, (t.2.1.2.2.2.1, (t.2.2.1, t.2.2.2.1))))))))
 sv := fun t => (t.1.2.2.2.2.2.2.1, t.1.2.2.2.2.2.2.2.1)
 step := S_sp_l10Future_4
 leaf := fun k r => .l (.exit 4 (mkSt ({ slots := [1, 3, 4, 5, 6, 7, 8], sh := (.cons (.box 1 0) (.cons (.dat (.slice (.slice (.int .i64)))) (.cons (.arr 1152) (.cons (.dat (.int .i64)) (.cons (.arr 31) (.cons (.dat (.int .i64)) (.cons (.dat (.int .i64)) .nil))))))), obs := [(1, .cells (.cons (.dat (.slice (.int .i64))) (.cons (.dat (.slice (.int .i64))) (.cons (.dat (.slice (.int .i64))) (.cons (.dat (.slice (.slice (.slice (.int .i64))))) .nil))))), (1152, .arr 22 (.slice (.int .i64))), (31, .arr 3 (.int .i64))] }) (((), (k.1, ((), (k.2.1, ((), (k.2.2.1, (r, ()))))))), ((k.2.2.2.1, (k.2.2.2.2.1, (k.2.2.2.2.2.1, (k.2.2.2.2.2.2.1, ())))), (k.2.2.2.2.2.2.2.1, (k.2.2.2.2.2.2.2.2, ()))))))
noncomputable def S_sp_l10Future_2 (k : (List (List (Int))) × ((Int) × ((List (Int)) × ((List (Int)) × ((List (Int)) × ((List (List (List (Int)))) × (List (List (Int))))))))) (v : (Int) × (List (Int))) : Tr (((Int) × (List (Int))) ⊕ (List (Int))) :=
 .t (decide (v.1 < ((List.length k.2.2.2.2.2.2 : Nat) : Int)))
  (.c (Int) (L_sp_l10Future_4 (k.1, (k.2.1, (v.1, (k.2.2.1, (k.2.2.2.1, (k.2.2.2.2.1, (k.2.2.2.2.2.1, (k.2.2.2.2.2.2, v.2)))))))) ((-1 : Int), (0 : Int))) fun r144_ =>
   .g (inR v.1 (List.length k.2.2.2.2.2.2)) <|
   .g (decide ((Int.toNat v.1) < List.length k.2.2.2.2.2.2)) <|
   .c (Int) (F_sp_l10Code (List.getD k.2.2.2.2.2.2 (Int.toNat v.1) ([] : List (Int)))) fun r145_ =>
   .g (inR r145_ (List.length v.2)) <|
   .g (decide ((Int.toNat r145_) < List.length v.2)) <|
   .l (.inl ((IntKind.wrap .i64 (v.1 + (1 : Int))), (List.set v.2 (Int.toNat r145_) r144_))))
  (.l (.inr v.2))
noncomputable def L_sp_l10Future_2 (k : (List (List (Int))) × ((Int) × ((List (Int)) × ((List (Int)) × ((List (Int)) × ((List (List (List (Int)))) × (List (List (Int))))))))) (v : (Int) × (List (Int))) : Option (List (Int)) := iter (fun v => (S_sp_l10Future_2 k v).ev) v
noncomputable def DL_sp_l10Future_2 : LD where
 head := { acts := [], S := { slots := [1, 3, 4, 5, 6, 7], sh := (.cons (.box 1 0) (.cons (.dat (.slice (.slice (.int .i64)))) (.cons (.arr 1152) (.cons (.dat (.int .i64)) (.cons (.arr 31) (.cons (.dat (.int .i64)) .nil)))))), obs := [(1, .cells (.cons (.dat (.slice (.int .i64))) (.cons (.dat (.slice (.int .i64))) (.cons (.dat (.slice (.int .i64))) (.cons (.dat (.slice (.slice (.slice (.int .i64))))) .nil))))), (1152, .arr 22 (.slice (.int .i64))), (31, .arr 3 (.int .i64))] } }
 exits := [(2, { acts := [], S := { slots := [1, 3, 4, 5, 6], sh := (.cons (.box 1 0) (.cons (.dat (.slice (.slice (.int .i64)))) (.cons (.arr 1152) (.cons (.dat (.int .i64)) (.cons (.arr 31) .nil))))), obs := [(1, .cells (.cons (.dat (.slice (.int .i64))) (.cons (.dat (.slice (.int .i64))) (.cons (.dat (.slice (.int .i64))) (.cons (.dat (.slice (.slice (.slice (.int .i64))))) .nil))))), (1152, .arr 22 (.slice (.int .i64))), (31, .arr 3 (.int .i64))] } })]
 rets := { acts := [], S := { slots := [], sh := .nil, obs := [] } }
 K := (List (List (Int))) × ((Int) × ((List (Int)) × ((List (Int)) × ((List (Int)) × ((List (List (List (Int)))) × (List (List (Int))))))))
 V := (Int) × (List (Int))
 R := List (Int)
 join := fun k v => (((), (k.1, ((), (k.2.1, ((), (v.1, ())))))), ((k.2.2.1, (k.2.2.2.1, (k.2.2.2.2.1, (k.2.2.2.2.2.1, ())))), (k.2.2.2.2.2.2, (v.2, ()))))
 sk := fun t => (t.1.2.1, (t.1.2.2.2.1, (t.2.1.1, (t.2.1.2.1, (t.2.1.2.2.1, (t.2.1.2.2.2.1, t.2.2.1))))))
 sv := fun t => (t.1.2.2.2.2.2.1, t.2.2.2.1)
 step := S_sp_l10Future_2
 leaf := fun k r => .l (.exit 2 (mkSt ({ slots := [1, 3, 4, 5, 6], sh := (.cons (.box 1 0) (.cons (.dat (.slice (.slice (.int .i64)))) (.cons (.arr 1152) (.cons (.dat (.int .i64)) (.cons (.arr 31) .nil))))), obs := [(1, .cells (.cons (.dat (.slice (.int .i64))) (.cons (.dat (.slice (.int .i64))) (.cons (.dat (.slice (.int .i64))) (.cons (.dat (.slice (.slice (.slice (.int .i64))))) .nil))))), (1152, .arr 22 (.slice (.int .i64))), (31, .arr 3 (.int .i64))] }) (((), (k.1, ((), (k.2.1, ((), ()))))), ((k.2.2.1, (k.2.2.2.1, (k.2.2.2.2.1, (k.2.2.2.2.2.1, ())))), (k.2.2.2.2.2.2, (r, ()))))))
noncomputable def S_sp_l10Future_0 (k : (List (Int)) × ((List (Int)) × ((List (Int)) × ((List (List (List (Int)))) × (List (List (Int))))))) (v : (List (List (Int))) × (Int)) : Tr (((List (List (Int))) × (Int)) ⊕ (List (List (Int)))) :=
 .t (decide ((0 : Int) ≤ v.2))
  (.g (decide ((0 : Int) ≤ ((List.length k.1 : Nat) : Int))) <|
   .g (decide ((0 : Int) ≤ (IntKind.wrap .i64 ((1 : Int) * 2 ^ (min (Int.toNat ((List.length k.1 : Nat) : Int)) (IntKind.bits .i64))))) && decide ((IntKind.wrap .i64 ((1 : Int) * 2 ^ (min (Int.toNat ((List.length k.1 : Nat) : Int)) (IntKind.bits .i64)))) ≤ (IntKind.wrap .i64 ((1 : Int) * 2 ^ (min (Int.toNat ((List.length k.1 : Nat) : Int)) (IntKind.bits .i64))))) && decide (((8 : Nat) : Int) * (IntKind.wrap .i64 ((1 : Int) * 2 ^ (min (Int.toNat ((List.length k.1 : Nat) : Int)) (IntKind.bits .i64)))) ≤ 281474976710656)) <|
   .c (List (Int)) (L_sp_l10Future_2 (v.1, (v.2, (k.1, (k.2.1, (k.2.2.1, (k.2.2.2.1, k.2.2.2.2)))))) ((0 : Int), (List.replicate (Int.toNat (IntKind.wrap .i64 ((1 : Int) * 2 ^ (min (Int.toNat ((List.length k.1 : Nat) : Int)) (IntKind.bits .i64))))) (0 : Int)))) fun r154_ =>
   .g (decide ((List.length (List.set ([[]] : List (List (Int))) 0 r154_) + List.length v.1) * 24 ≤ 140737488355328)) <|
   .l (.inl (((List.set ([[]] : List (List (Int))) 0 r154_) ++ v.1), (IntKind.wrap .i64 (v.2 - (1 : Int))))))
  (.l (.inr v.1))
noncomputable def L_sp_l10Future_0 (k : (List (Int)) × ((List (Int)) × ((List (Int)) × ((List (List (List (Int)))) × (List (List (Int))))))) (v : (List (List (Int))) × (Int)) : Option (List (List (Int))) := iter (fun v => (S_sp_l10Future_0 k v).ev) v
noncomputable def DL_sp_l10Future_0 : LD where
 head := { acts := [.fz 15, .fz 16, .fz 91, .flat 16], S := { slots := [1, 3, 4, 5], sh := (.cons (.box 1 0) (.cons (.dat (.slice (.slice (.int .i64)))) (.cons (.arr 1152) (.cons (.dat (.int .i64)) .nil)))), obs := [(1, .cells (.cons (.dat (.slice (.int .i64))) (.cons (.dat (.slice (.int .i64))) (.cons (.dat (.slice (.int .i64))) (.cons (.dat (.slice (.slice (.slice (.int .i64))))) .nil))))), (1152, .arr 22 (.slice (.int .i64)))] } }
 exits := [(0, { acts := [], S := { slots := [3], sh := (.cons (.dat (.slice (.slice (.int .i64)))) .nil), obs := [] } })]
 rets := { acts := [], S := { slots := [], sh := .nil, obs := [] } }
 K := (List (Int)) × ((List (Int)) × ((List (Int)) × ((List (List (List (Int)))) × (List (List (Int))))))
 V := (List (List (Int))) × (Int)
 R := List (List (Int))
 join := fun k v => (((), (v.1, ((), (v.2, ())))), ((k.1, (k.2.1, (k.2.2.1, (k.2.2.2.1, ())))), (k.2.2.2.2, ())))
 sk := fun t => (t.2.1.1, (t.2.1.2.1, (t.2.1.2.2.1, (t.2.1.2.2.2.1, t.2.2.1))))
 sv := fun t => (t.1.2.1, t.1.2.2.2.1)
 step := S_sp_l10Future_0
 leaf := fun _ r => .l (.exit 0 (mkSt ({ slots := [3], sh := (.cons (.dat (.slice (.slice (.int .i64)))) .nil), obs := [] }) ((r, ()), ())))
noncomputable def T_sp_l10Future (a1_ : List (Int)) (a2_ : List (Int)) (a3_ : List (Int)) (a4_ : List (List (List (Int)))) : Tr (List (List (Int))) :=
 .g (decide ((0 : Int) ≤ ((List.length a1_ : Nat) : Int))) <|
 .g (decide ((0 : Int) ≤ (IntKind.wrap .i64 ((1 : Int) * 2 ^ (min (Int.toNat ((List.length a1_ : Nat) : Int)) (IntKind.bits .i64))))) && decide ((IntKind.wrap .i64 ((1 : Int) * 2 ^ (min (Int.toNat ((List.length a1_ : Nat) : Int)) (IntKind.bits .i64)))) ≤ (IntKind.wrap .i64 ((1 : Int) * 2 ^ (min (Int.toNat ((List.length a1_ : Nat) : Int)) (IntKind.bits .i64))))) && decide (((8 : Nat) : Int) * (IntKind.wrap .i64 ((1 : Int) * 2 ^ (min (Int.toNat ((List.length a1_ : Nat) : Int)) (IntKind.bits .i64)))) ≤ 281474976710656)) <|
 .c (List (List (Int))) (F_sp_l10Sets a1_ a2_ a3_ a4_) fun r1_ =>
 .c (List (List (Int))) (L_sp_l10Future_0 (a1_, (a2_, (a3_, (a4_, r1_)))) ((List.set ([[]] : List (List (Int))) 0 (List.replicate (Int.toNat (IntKind.wrap .i64 ((1 : Int) * 2 ^ (min (Int.toNat ((List.length a1_ : Nat) : Int)) (IntKind.bits .i64))))) (0 : Int))), (IntKind.wrap .i64 (((List.length a4_ : Nat) : Int) - (1 : Int))))) fun r156_ =>
 .l r156_
noncomputable def F_sp_l10Future (a1_ : List (Int)) (a2_ : List (Int)) (a3_ : List (Int)) (a4_ : List (List (List (Int)))) : Option (List (List (Int))) := (T_sp_l10Future a1_ a2_ a3_ a4_).ev
noncomputable def A_sp_l10Future : Sh := (.cons (.agg (.cons (.dat (.slice (.int .i64))) (.cons (.dat (.slice (.int .i64))) (.cons (.dat (.slice (.int .i64))) (.cons (.dat (.slice (.slice (.slice (.int .i64))))) .nil))))) .nil)
noncomputable def I_sp_l10Future : List (Nat × OSh) := []
noncomputable def K_sp_l10Future : RetK := { acts := [], res := [.tmp 2], sh := (.cons (.dat (.slice (.slice (.int .i64)))) .nil), obs := [], pins := [] }
noncomputable def D_sp_l10Future : FD where
 A := A_sp_l10Future
 ins := I_sp_l10Future
 lend := []
 R := List (List (Int))
 F := fun x => F_sp_l10Future x.1.1.1 x.1.1.2.1 x.1.1.2.2.1 x.1.1.2.2.2.1
 emb := fun r => ([.dat (.slice (.slice (.int .i64))) r], [])
noncomputable def E_sp_l10Future : Env := envOf [(79, D_sp_l10Sets), (80, D_sp_l10May), (81, D_sp_l10Move), (135, D_sp_l10Code)]
noncomputable def Z_sp_l10Future : Nat → Nat → List Nat := fun r i => match look [(18, [(3, [6, 4000091, 4000092])])] r with
 | some l => (look l i).getD []
 | none => []
noncomputable def O_sp_l10Future : List (Nat × LD) := [(4, DL_sp_l10Future_4), (2, DL_sp_l10Future_2), (0, DL_sp_l10Future_0)]
noncomputable def C_sp_l10Future : Code := (f67.body).getD .skip
noncomputable def T_sp_FutureCosts (a1_ : List (Int)) (a2_ : List (Int)) (a3_ : List (Int)) (a4_ : List (List (List (Int)))) : Tr ((List (List (Int))) × (Bool)) :=
 .c (Bool) (F_sp_l10Good a1_ a2_ a3_ a4_) fun r1_ =>
 .t (!r1_)
  (.l (([] : List (List (Int))), false))
  (.c (List (List (Int))) (F_sp_l10Future a1_ a2_ a3_ a4_) fun r2_ =>
   .l (r2_, true))
noncomputable def F_sp_FutureCosts (a1_ : List (Int)) (a2_ : List (Int)) (a3_ : List (Int)) (a4_ : List (List (List (Int)))) : Option ((List (List (Int))) × (Bool)) := (T_sp_FutureCosts a1_ a2_ a3_ a4_).ev
noncomputable def A_sp_FutureCosts : Sh := (.cons (.agg (.cons (.dat (.slice (.int .i64))) (.cons (.dat (.slice (.int .i64))) (.cons (.dat (.slice (.int .i64))) (.cons (.dat (.slice (.slice (.slice (.int .i64))))) .nil))))) .nil)
noncomputable def I_sp_FutureCosts : List (Nat × OSh) := []
noncomputable def K_sp_FutureCosts : RetK := { acts := [.fz 7], res := [.tmp 2, .tmp 3], sh := (.cons (.dat (.slice (.slice (.int .i64)))) (.cons (.dat .bool) .nil)), obs := [], pins := [] }
noncomputable def D_sp_FutureCosts : FD where
 A := A_sp_FutureCosts
 ins := I_sp_FutureCosts
 lend := []
 R := (List (List (Int))) × (Bool)
 F := fun x => F_sp_FutureCosts x.1.1.1 x.1.1.2.1 x.1.1.2.2.1 x.1.1.2.2.2.1
 emb := fun r => ([.dat (.slice (.slice (.int .i64))) r.1, .dat .bool r.2], [])
noncomputable def E_sp_FutureCosts : Env := envOf [(66, D_sp_l10Good), (67, D_sp_l10Future)]
noncomputable def Z_sp_FutureCosts : Nat → Nat → List Nat := fun r i => match look [(2, [(0, [1000000])])] r with
 | some l => (look l i).getD []
 | none => []
noncomputable def O_sp_FutureCosts : List (Nat × LD) := []
noncomputable def C_sp_FutureCosts : Code := (f30.body).getD .skip
noncomputable def T_im_Season_future_1 (a1_ : List (Int)) (a2_ : List (Int)) (a3_ : List (Int)) (a4_ : List (Int)) (a5_ : List (List (List (Int)))) (a6_ : Int) (a7_ : Int) (a8_ : List (List (Int))) : Tr (Int) :=
 .c (List (Int)) (F_im_bag_list a7_) fun r1_ =>
 .c (Int) (F_im_Season_move a2_ a3_ a4_ a5_ a6_ r1_ a1_) fun r2_ =>
 .g (inR (IntKind.wrap .i64 (a6_ + (1 : Int))) (List.length a8_)) <|
 .c (Int) (F_im_bagOf a1_) fun r3_ =>
 .g (inR r3_ (List.length (List.getD a8_ (Int.toNat (IntKind.wrap .i64 (a6_ + (1 : Int)))) ([] : List (Int))))) <|
 .l (IntKind.wrap .i64 (r2_ + (List.getD (List.getD a8_ (Int.toNat (IntKind.wrap .i64 (a6_ + (1 : Int)))) ([] : List (Int))) (Int.toNat r3_) (0 : Int))))
noncomputable def F_im_Season_future_1 (a1_ : List (Int)) (a2_ : List (Int)) (a3_ : List (Int)) (a4_ : List (Int)) (a5_ : List (List (List (Int)))) (a6_ : Int) (a7_ : Int) (a8_ : List (List (Int))) : Option (Int) := (T_im_Season_future_1 a1_ a2_ a3_ a4_ a5_ a6_ a7_ a8_).ev
noncomputable def A_im_Season_future_1 : Sh := (.cons (.dat (.slice (.int .i64))) (.cons (.ptr (.cons (.dat (.slice (.int .i64))) (.cons (.dat (.slice (.int .i64))) (.cons (.dat (.slice (.int .i64))) (.cons (.dat (.slice (.slice (.slice (.int .i64))))) .nil))))) (.cons (.ptr (.cons (.dat (.int .i64)) .nil)) (.cons (.ptr (.cons (.dat (.int .u64)) .nil)) (.cons (.ptr (.cons (.dat (.slice (.slice (.int .i64)))) .nil)) .nil)))))
noncomputable def I_im_Season_future_1 : List (Nat × OSh) := []
noncomputable def K_im_Season_future_1 : RetK := { acts := [], res := [.tmp 6], sh := (.cons (.dat (.int .i64)) .nil), obs := [], pins := [] }
noncomputable def D_im_Season_future_1 : FD where
 A := A_im_Season_future_1
 ins := I_im_Season_future_1
 lend := []
 R := Int
 F := fun x => F_im_Season_future_1 x.1.1 x.1.2.1.1 x.1.2.1.2.1 x.1.2.1.2.2.1 x.1.2.1.2.2.2.1 x.1.2.2.1.1 x.1.2.2.2.1.1 x.1.2.2.2.2.1.1
 emb := fun r => ([.dat (.int .i64) r], [])
noncomputable def E_im_Season_future_1 : Env := envOf [(144, D_im_bag_list), (86, D_im_Season_move), (91, D_im_bagOf)]
noncomputable def Z_im_Season_future_1 : Nat → Nat → List Nat := fun _ _ => []
noncomputable def O_im_Season_future_1 : List (Nat × LD) := []
noncomputable def C_im_Season_future_1 : Code := (f143.body).getD .skip
noncomputable def S_im_Season_future_2 (k : (List (List (Int))) × ((List (Int)) × ((List (Int)) × ((List (Int)) × ((List (List (List (Int)))) × (Int)))))) (v : (Int) × (List (List (Int)))) : Tr (((Int) × (List (List (Int)))) ⊕ (List (List (Int)))) :=
 .g (decide ((0 : Int) ≤ ((List.length k.2.1 : Nat) : Int))) <|
 .t (decide (v.1 < (IntKind.wrap .u64 ((1 : Int) * 2 ^ (min (Int.toNat ((List.length k.2.1 : Nat) : Int)) (IntKind.bits .u64))))))
  (.g (inR k.2.2.2.2.2 (List.length v.2)) <|
   .g (decide ((Int.toNat k.2.2.2.2.2) < List.length v.2)) <|
   .c (List (Int)) (F_im_least k.1 (fun h16_ => Option.bind (F_im_Season_future_1 h16_.1 k.2.1 k.2.2.1 k.2.2.2.1 k.2.2.2.2.1 k.2.2.2.2.2 v.1 v.2) fun y17_ => some y17_)) fun r18_ =>
   .c (Int) (F_im_Season_future_1 r18_ k.2.1 k.2.2.1 k.2.2.2.1 k.2.2.2.2.1 k.2.2.2.2.2 v.1 v.2) fun r19_ =>
   .g (decide ((List.length (List.getD v.2 (Int.toNat k.2.2.2.2.2) ([] : List (Int))) + List.length ([r19_] : List (Int))) * 8 ≤ 140737488355328)) <|
   .g (inR k.2.2.2.2.2 (List.length v.2)) <|
   .g (decide ((Int.toNat k.2.2.2.2.2) < List.length v.2) && decide ((Int.toNat k.2.2.2.2.2) = (Int.toNat k.2.2.2.2.2))) <|
   .l (.inl ((IntKind.wrap .u64 (v.1 + (1 : Int))), (List.set v.2 (Int.toNat k.2.2.2.2.2) ((List.getD v.2 (Int.toNat k.2.2.2.2.2) ([] : List (Int))) ++ ([r19_] : List (Int)))))))
  (.l (.inr v.2))
noncomputable def L_im_Season_future_2 (k : (List (List (Int))) × ((List (Int)) × ((List (Int)) × ((List (Int)) × ((List (List (List (Int)))) × (Int)))))) (v : (Int) × (List (List (Int)))) : Option (List (List (Int))) := iter (fun v => (S_im_Season_future_2 k v).ev) v
noncomputable def DL_im_Season_future_2 : LD where
 head := { acts := [.fz 1984], S := { slots := [1, 4, 5, 6, 7], sh := (.cons (.box 1 0) (.cons (.box 4 0) (.cons (.box 5 0) (.cons (.dat (.slice (.slice (.int .i64)))) (.cons (.box 7 0) .nil))))), obs := [(1, .cells (.cons (.dat (.slice (.int .i64))) (.cons (.dat (.slice (.int .i64))) (.cons (.dat (.slice (.int .i64))) (.cons (.dat (.slice (.slice (.slice (.int .i64))))) .nil))))), (4, .cells (.cons (.arr 14) .nil)), (5, .cells (.cons (.dat (.int .i64)) .nil)), (7, .cells (.cons (.dat (.int .u64)) .nil)), (14, .rows 22 3 (.int .i64))] } }
 exits := [(2, { acts := [], S := { slots := [1, 4, 5], sh := (.cons (.box 1 0) (.cons (.box 4 0) (.cons (.box 5 0) .nil))), obs := [(1, .cells (.cons (.dat (.slice (.int .i64))) (.cons (.dat (.slice (.int .i64))) (.cons (.dat (.slice (.int .i64))) (.cons (.dat (.slice (.slice (.slice (.int .i64))))) .nil))))), (4, .cells (.cons (.arr 14) .nil)), (5, .cells (.cons (.dat (.int .i64)) .nil)), (14, .rows 22 3 (.int .i64))] } })]
 rets := { acts := [], S := { slots := [], sh := .nil, obs := [] } }
 K := (List (List (Int))) × ((List (Int)) × ((List (Int)) × ((List (Int)) × ((List (List (List (Int)))) × (Int)))))
 V := (Int) × (List (List (Int)))
 R := List (List (Int))
 join := fun k v => (((), ((), ((), (k.1, ((), ()))))), ((k.2.1, (k.2.2.1, (k.2.2.2.1, (k.2.2.2.2.1, ())))), (((), ()), ((k.2.2.2.2.2, ()), ((v.1, ()), (v.2, ()))))))
 sk := fun t => (t.1.2.2.2.1, (t.2.1.1, (t.2.1.2.1, (t.2.1.2.2.1, (t.2.1.2.2.2.1, t.2.2.2.1.1)))))
 sv := fun t => (t.2.2.2.2.1.1, t.2.2.2.2.2.1)
 step := S_im_Season_future_2
 leaf := fun k r => .l (.exit 2 (mkSt ({ slots := [1, 4, 5], sh := (.cons (.box 1 0) (.cons (.box 4 0) (.cons (.box 5 0) .nil))), obs := [(1, .cells (.cons (.dat (.slice (.int .i64))) (.cons (.dat (.slice (.int .i64))) (.cons (.dat (.slice (.int .i64))) (.cons (.dat (.slice (.slice (.slice (.int .i64))))) .nil))))), (4, .cells (.cons (.arr 14) .nil)), (5, .cells (.cons (.dat (.int .i64)) .nil)), (14, .rows 22 3 (.int .i64))] }) (((), ((), ((), ()))), ((k.2.1, (k.2.2.1, (k.2.2.2.1, (k.2.2.2.2.1, ())))), (((), ()), ((k.2.2.2.2.2, ()), (r, ())))))))
noncomputable def S_im_Season_future_0 (k : (List (Int)) × ((List (Int)) × ((List (Int)) × (List (List (List (Int))))))) (v : (Int) × (List (List (Int)))) : Tr (((Int) × (List (List (Int)))) ⊕ (List (List (Int)))) :=
 .t (decide ((0 : Int) ≤ v.1))
  (.c (List (List (Int))) (F_im_Season_choices k.1 k.2.1 k.2.2.1 k.2.2.2 v.1) fun r7_ =>
   .c (List (List (Int))) (L_im_Season_future_2 (r7_, (k.1, (k.2.1, (k.2.2.1, (k.2.2.2, v.1))))) ((0 : Int), v.2)) fun r26_ =>
   .l (.inl ((IntKind.wrap .i64 (v.1 - (1 : Int))), r26_)))
  (.l (.inr v.2))
noncomputable def L_im_Season_future_0 (k : (List (Int)) × ((List (Int)) × ((List (Int)) × (List (List (List (Int))))))) (v : (Int) × (List (List (Int)))) : Option (List (List (Int))) := iter (fun v => (S_im_Season_future_0 k v).ev) v
noncomputable def DL_im_Season_future_0 : LD where
 head := { acts := [], S := { slots := [1, 4, 5], sh := (.cons (.box 1 0) (.cons (.box 4 0) (.cons (.box 5 0) .nil))), obs := [(1, .cells (.cons (.dat (.slice (.int .i64))) (.cons (.dat (.slice (.int .i64))) (.cons (.dat (.slice (.int .i64))) (.cons (.dat (.slice (.slice (.slice (.int .i64))))) .nil))))), (4, .cells (.cons (.arr 14) .nil)), (5, .cells (.cons (.dat (.int .i64)) .nil)), (14, .rows 22 3 (.int .i64))] } }
 exits := [(0, { acts := [], S := { slots := [4], sh := (.cons (.box 4 0) .nil), obs := [(4, .cells (.cons (.arr 14) .nil)), (14, .rows 22 3 (.int .i64))] } })]
 rets := { acts := [], S := { slots := [], sh := .nil, obs := [] } }
 K := (List (Int)) × ((List (Int)) × ((List (Int)) × (List (List (List (Int))))))
 V := (Int) × (List (List (Int)))
 R := List (List (Int))
 join := fun k v => (((), ((), ((), ()))), ((k.1, (k.2.1, (k.2.2.1, (k.2.2.2, ())))), (((), ()), ((v.1, ()), (v.2, ())))))
 sk := fun t => (t.2.1.1, (t.2.1.2.1, (t.2.1.2.2.1, t.2.1.2.2.2.1)))
 sv := fun t => (t.2.2.2.1.1, t.2.2.2.2.1)
 step := S_im_Season_future_0
 leaf := fun _ r => .l (.exit 0 (mkSt ({ slots := [4], sh := (.cons (.box 4 0) .nil), obs := [(4, .cells (.cons (.arr 14) .nil)), (14, .rows 22 3 (.int .i64))] }) (((), ()), (((), ()), (r, ())))))
noncomputable def T_im_Season_future (a1_ : List (Int)) (a2_ : List (Int)) (a3_ : List (Int)) (a4_ : List (List (List (Int)))) : Tr (List (List (Int))) :=
 .g (decide ((0 : Int) ≤ (IntKind.wrap .i64 (((List.length a4_ : Nat) : Int) + (1 : Int)))) && decide ((IntKind.wrap .i64 (((List.length a4_ : Nat) : Int) + (1 : Int))) ≤ (IntKind.wrap .i64 (((List.length a4_ : Nat) : Int) + (1 : Int)))) && decide (((24 : Nat) : Int) * (IntKind.wrap .i64 (((List.length a4_ : Nat) : Int) + (1 : Int))) ≤ 281474976710656)) <|
 .g (decide ((0 : Int) ≤ ((List.length a1_ : Nat) : Int))) <|
 .g (decide ((0 : Int) ≤ (IntKind.wrap .i64 ((1 : Int) * 2 ^ (min (Int.toNat ((List.length a1_ : Nat) : Int)) (IntKind.bits .i64))))) && decide ((IntKind.wrap .i64 ((1 : Int) * 2 ^ (min (Int.toNat ((List.length a1_ : Nat) : Int)) (IntKind.bits .i64)))) ≤ (IntKind.wrap .i64 ((1 : Int) * 2 ^ (min (Int.toNat ((List.length a1_ : Nat) : Int)) (IntKind.bits .i64))))) && decide (((8 : Nat) : Int) * (IntKind.wrap .i64 ((1 : Int) * 2 ^ (min (Int.toNat ((List.length a1_ : Nat) : Int)) (IntKind.bits .i64)))) ≤ 281474976710656)) <|
 .g (inR ((List.length a4_ : Nat) : Int) (List.length (List.replicate (Int.toNat (IntKind.wrap .i64 (((List.length a4_ : Nat) : Int) + (1 : Int)))) ([] : List (Int))))) <|
 .g (decide ((Int.toNat ((List.length a4_ : Nat) : Int)) < List.length (List.replicate (Int.toNat (IntKind.wrap .i64 (((List.length a4_ : Nat) : Int) + (1 : Int)))) ([] : List (Int))))) <|
 .c (List (List (Int))) (L_im_Season_future_0 (a1_, (a2_, (a3_, a4_))) ((IntKind.wrap .i64 (((List.length a4_ : Nat) : Int) - (1 : Int))), (List.set (List.replicate (Int.toNat (IntKind.wrap .i64 (((List.length a4_ : Nat) : Int) + (1 : Int)))) ([] : List (Int))) (Int.toNat ((List.length a4_ : Nat) : Int)) (List.replicate (Int.toNat (IntKind.wrap .i64 ((1 : Int) * 2 ^ (min (Int.toNat ((List.length a1_ : Nat) : Int)) (IntKind.bits .i64))))) (0 : Int))))) fun r28_ =>
 .l r28_
noncomputable def F_im_Season_future (a1_ : List (Int)) (a2_ : List (Int)) (a3_ : List (Int)) (a4_ : List (List (List (Int)))) : Option (List (List (Int))) := (T_im_Season_future a1_ a2_ a3_ a4_).ev
noncomputable def A_im_Season_future : Sh := (.cons (.agg (.cons (.dat (.slice (.int .i64))) (.cons (.dat (.slice (.int .i64))) (.cons (.dat (.slice (.int .i64))) (.cons (.dat (.slice (.slice (.slice (.int .i64))))) .nil))))) .nil)
noncomputable def I_im_Season_future : List (Nat × OSh) := []
noncomputable def K_im_Season_future : RetK := { acts := [.ren 14 0], res := [.tmp 2], sh := (.cons (.arr 0) .nil), obs := [(0, .rows 22 3 (.int .i64))], pins := [] }
noncomputable def D_im_Season_future : FD where
 A := A_im_Season_future
 ins := I_im_Season_future
 lend := []
 R := List (List (Int))
 F := fun x => F_im_Season_future x.1.1.1 x.1.1.2.1 x.1.1.2.2.1 x.1.1.2.2.2.1
 emb := fun r => ([.arr 0], [(0, .rows 22 3 (.int .i64) r none)])
noncomputable def E_im_Season_future : Env := envOf [(84, D_im_Season_choices), (83, D_im_least), (143, D_im_Season_future_1)]
noncomputable def Z_im_Season_future : Nat → Nat → List Nat := fun r i => match look [(2, [(2, [1000000])]), (12, [(0, [6])]), (14, [(0, [5000007])]), (16, [(0, [5000005])])] r with
 | some l => (look l i).getD []
 | none => []
noncomputable def O_im_Season_future : List (Nat × LD) := [(2, DL_im_Season_future_2), (0, DL_im_Season_future_0)]
noncomputable def C_im_Season_future : Code := (f70.body).getD .skip
noncomputable def T_im_FutureCosts (a1_ : List (Int)) (a2_ : List (Int)) (a3_ : List (Int)) (a4_ : List (List (List (Int)))) : Tr ((Bool) × (List (List (Int)))) :=
 .c (Bool) (F_im_IsSeason a1_ a2_ a3_ a4_) fun r1_ =>
 .t (!r1_)
  (.l (false, ([] : List (List (Int)))))
  (.c (List (List (Int))) (F_im_Season_future a1_ a2_ a3_ a4_) fun r2_ =>
   .l (true, r2_))
noncomputable def F_im_FutureCosts (a1_ : List (Int)) (a2_ : List (Int)) (a3_ : List (Int)) (a4_ : List (List (List (Int)))) : Option ((Bool) × (List (List (Int)))) := (T_im_FutureCosts a1_ a2_ a3_ a4_).ev
noncomputable def A_im_FutureCosts : Sh := (.cons (.agg (.cons (.dat (.slice (.int .i64))) (.cons (.dat (.slice (.int .i64))) (.cons (.dat (.slice (.int .i64))) (.cons (.dat (.slice (.slice (.slice (.int .i64))))) .nil))))) .nil)
noncomputable def I_im_FutureCosts : List (Nat × OSh) := []
noncomputable def K_im_FutureCosts : RetK := { acts := [.ownR 2 0 22 3 (.int .i64), .ren 512 0], res := [.tmp 2, .tmp 3], sh := (.cons (.arr 0) (.cons (.dat .bool) .nil)), obs := [(0, .rows 22 3 (.int .i64))], pins := [] }
noncomputable def D_im_FutureCosts : FD where
 A := A_im_FutureCosts
 ins := I_im_FutureCosts
 lend := []
 R := (Bool) × (List (List (Int)))
 F := fun x => F_im_FutureCosts x.1.1.1 x.1.1.2.1 x.1.1.2.2.1 x.1.1.2.2.2.1
 emb := fun r => ([.arr 0, .dat .bool r.1], [(0, .rows 22 3 (.int .i64) r.2 none)])
noncomputable def E_im_FutureCosts : Env := envOf [(69, D_im_IsSeason), (70, D_im_Season_future)]
noncomputable def Z_im_FutureCosts : Nat → Nat → List Nat := fun _ _ => []
noncomputable def O_im_FutureCosts : List (Nat × LD) := []
noncomputable def C_im_FutureCosts : Code := (f31.body).getD .skip
noncomputable def T_lw_FnExactFutureCosts (a1_ : List (Int)) (a2_ : List (Int)) (a3_ : List (Int)) (a4_ : List (List (List (Int)))) : Tr (Bool) :=
 .c (Int) (F_lw_szSeason a1_ a2_ a3_ a4_ (1048576 : Int)) fun r1_ =>
 .t (decide (r1_ < (0 : Int)))
  (.l true)
  (.c ((List (Int)) × ((List (Int)) × ((List (Int)) × (List (List (List (Int))))))) (F_lw_toSeason a1_ a2_ a3_ a4_) fun r2_ =>
   .c ((List (List (Int))) × (Bool)) (F_sp_FutureCosts r2_.1 r2_.2.1 r2_.2.2.1 r2_.2.2.2) fun r3_ =>
   .c ((List (Int)) × ((List (Int)) × ((List (Int)) × (List (List (List (Int))))))) (F_lw_toSeason a1_ a2_ a3_ a4_) fun r4_ =>
   .c ((Bool) × (List (List (Int)))) (F_im_FutureCosts r4_.1 r4_.2.1 r4_.2.2.1 r4_.2.2.2) fun r5_ =>
   .c (Bool) (F_lw_eqIntSS r5_.2 r3_.1) fun r6_ =>
   .t (!r6_)
    (.l false)
    (.t (!(r5_.1 == r3_.2))
      (.l false)
      (.c ((List (Int)) × ((List (Int)) × ((List (Int)) × (List (List (List (Int))))))) (F_lw_toSeason a1_ a2_ a3_ a4_) fun r7_ =>
       .c (Bool) (F_lw_eqSeason r4_.1 r4_.2.1 r4_.2.2.1 r4_.2.2.2 r7_.1 r7_.2.1 r7_.2.2.1 r7_.2.2.2) fun r8_ =>
       .t (!r8_)
        (.l false)
        (.c ((Int) × ((List (Int)) × ((List (Int)) × (List (Int))))) (F_lw_markSeason (1 : Int) r4_.1 r4_.2.1 r4_.2.2.1 r4_.2.2.2) fun r9_ =>
         .t (decide (r9_.1 < (0 : Int)))
          (.l false)
          (.c (Bool) (F_lw_eqIntSS r5_.2 r3_.1) fun r10_ =>
           .t (!r10_)
            (.l false)
            (.t (!(r5_.1 == r3_.2))
              (.l false)
              (.c ((Int) × (List (List (Int)))) (F_lw_markIntSS (1 : Int) r5_.2) fun r11_ =>
               .c (Int) (F_lw_heldIntSS r11_.2 (1 : Int)) fun r12_ =>
               .t (decide (r12_ < (0 : Int)))
                (.l false)
                (.t (r12_ != r11_.1)
                  (.l false)
                  (.c ((List (Int)) × ((List (Int)) × ((List (Int)) × (List (List (List (Int))))))) (F_lw_toSeason a1_ a2_ a3_ a4_) fun r13_ =>
                   .c ((Bool) × (List (List (Int)))) (F_im_FutureCosts r13_.1 r13_.2.1 r13_.2.2.1 r13_.2.2.2) fun r14_ =>
                   .c (Bool) (F_lw_eqIntSS r14_.2 r3_.1) fun r15_ =>
                   .t (!r15_)
                    (.l false)
                    (.t (!(r14_.1 == r3_.2))
                      (.l false)
                      (.c (Int) (F_lw_heldIntSS r11_.2 (1 : Int)) fun r16_ =>
                       .t (decide (r16_ < (0 : Int)))
                        (.l false)
                        (.t (r16_ != r11_.1)
                          (.l false)
                          (.l true)))))))))))))
noncomputable def F_lw_FnExactFutureCosts (a1_ : List (Int)) (a2_ : List (Int)) (a3_ : List (Int)) (a4_ : List (List (List (Int)))) : Option (Bool) := (T_lw_FnExactFutureCosts a1_ a2_ a3_ a4_).ev
noncomputable def A_lw_FnExactFutureCosts : Sh := (.cons (.agg (.cons (.dat (.slice (.int .i64))) (.cons (.dat (.slice (.int .i64))) (.cons (.dat (.slice (.int .i64))) (.cons (.dat (.slice (.slice (.slice (.int .i64))))) .nil))))) .nil)
noncomputable def I_lw_FnExactFutureCosts : List (Nat × OSh) := []
noncomputable def K_lw_FnExactFutureCosts : RetK := { acts := [], res := [.tmp 2], sh := (.cons (.dat .bool) .nil), obs := [], pins := [] }
noncomputable def D_lw_FnExactFutureCosts : FD where
 A := A_lw_FnExactFutureCosts
 ins := I_lw_FnExactFutureCosts
 lend := []
 R := Bool
 F := fun x => F_lw_FnExactFutureCosts x.1.1.1 x.1.1.2.1 x.1.1.2.2.1 x.1.1.2.2.2.1
 emb := fun r => ([.dat .bool r], [])
noncomputable def E_lw_FnExactFutureCosts : Env := envOf [(13, D_lw_szSeason), (15, D_lw_toSeason), (30, D_sp_FutureCosts), (31, D_im_FutureCosts), (22, D_lw_eqIntSS), (17, D_lw_eqSeason), (27, D_lw_markSeason), (28, D_lw_markIntSS), (29, D_lw_heldIntSS)]
noncomputable def Z_lw_FnExactFutureCosts : Nat → Nat → List Nat := fun r i => match look [(5, [(2, [21])])] r with
 | some l => (look l i).getD []
 | none => []
noncomputable def O_lw_FnExactFutureCosts : List (Nat × LD) := []
noncomputable def C_lw_FnExactFutureCosts : Code := (f7.body).getD .skip
end Go.Proofs.Ytlmbhkmaflhagaa
