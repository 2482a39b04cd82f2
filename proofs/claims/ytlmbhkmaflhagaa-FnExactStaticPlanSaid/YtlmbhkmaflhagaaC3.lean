import Derived.Test.YtlmbhkmaflhagaaB39
import Derived.Test.YtlmbhkmaflhagaaProg
namespace Go.Proofs.Ytlmbhkmaflhagaa
open Go.Proofs.Try
noncomputable def tabl : List (Nat × TD) := [(3, .sc (.int .i64)), (4, .sc .bool), (5, .sc (.int .u8)), (9, .sc .str), (22, .sl 3 (.int .i64) 8), (23, .sl 33 (.slice (.slice (.int .i64))) 24), (25, .st (.pair (.slice (.int .i64)) (.pair (.slice (.int .i64)) (.pair (.slice (.int .i64)) (.slice (.slice (.slice (.int .i64))))))) [(22, (.slice (.int .i64))), (22, (.slice (.int .i64))), (22, (.slice (.int .i64))), (23, (.slice (.slice (.slice (.int .i64)))))]), (29, .st (.pair (.slice (.int .i64)) (.pair (.slice (.int .i64)) (.pair (.slice (.int .i64)) (.slice (.slice (.slice (.int .i64))))))) [(22, (.slice (.int .i64))), (22, (.slice (.int .i64))), (22, (.slice (.int .i64))), (23, (.slice (.slice (.slice (.int .i64)))))]), (33, .sl 22 (.slice (.int .i64)) 24), (51, .st (.pair (.slice (.int .i64)) (.slice (.slice (.int .i64)))) [(22, (.slice (.int .i64))), (33, (.slice (.slice (.int .i64))))]), (87, .sc (.int .u64)), (91, .other), (130, .sc (.int .u64))]
noncomputable def tt : Nat → TD := fun i => match look tabl i with
 | some d => d
 | none => .no
noncomputable def T_lw_szIntS (a1_ : List (Int)) (a2_ : Int) : Tr (Int) :=
 .t (decide ((IntKind.wrap .i64 (a2_ - ((List.length a1_ : Nat) : Int))) < (0 : Int)))
  (.l (-1 : Int))
  (.l (IntKind.wrap .i64 (a2_ - ((List.length a1_ : Nat) : Int))))
noncomputable def F_lw_szIntS (a1_ : List (Int)) (a2_ : Int) : Option (Int) := (T_lw_szIntS a1_ a2_).ev
noncomputable def A_lw_szIntS : Sh := (.cons (.dat (.slice (.int .i64))) (.cons (.dat (.int .i64)) .nil))
noncomputable def I_lw_szIntS : List (Nat × OSh) := []
noncomputable def K_lw_szIntS : RetK := { acts := [], res := [.tmp 4], sh := (.cons (.dat (.int .i64)) .nil), obs := [], pins := [] }
noncomputable def D_lw_szIntS : FD where
 A := A_lw_szIntS
 ins := I_lw_szIntS
 lend := []
 R := Int
 F := fun x => F_lw_szIntS x.1.1 x.1.2.1
 emb := fun r => ([.dat (.int .i64) r], [])
noncomputable def E_lw_szIntS : Env := envOf []
noncomputable def Z_lw_szIntS : Nat → Nat → List Nat := fun _ _ => []
noncomputable def O_lw_szIntS : List (Nat × LD) := []
noncomputable def C_lw_szIntS : Code := (f64.body).getD .skip
noncomputable def S_lw_szIntSS_0 (k : List (List (Int))) (v : (Int) × (Int)) : Tr (((Int) × (Int)) ⊕ ((Int) ⊕ (Unit))) :=
 .t (decide (v.2 < ((List.length k : Nat) : Int)))
  (.g (inR v.2 (List.length k)) <|
   .c (Int) (F_lw_szIntS (List.getD k (Int.toNat v.2) ([] : List (Int))) v.1) fun r4_ =>
   .t (decide (r4_ < (0 : Int)))
    (.l (.inr (.inr ())))
    (.l (.inl (r4_, (IntKind.wrap .i64 (v.2 + (1 : Int)))))))
  (.l (.inr (.inl v.1)))
noncomputable def L_lw_szIntSS_0 (k : List (List (Int))) (v : (Int) × (Int)) : Option ((Int) ⊕ (Unit)) := iter (fun v => (S_lw_szIntSS_0 k v).ev) v
noncomputable def DL_lw_szIntSS_0 : LD where
 head := { acts := [], S := { slots := [0, 1, 5], sh := (.cons (.dat (.slice (.slice (.int .i64)))) (.cons (.dat (.int .i64)) (.cons (.dat (.int .i64)) .nil))), obs := [] } }
 exits := [(0, { acts := [], S := { slots := [1], sh := (.cons (.dat (.int .i64)) .nil), obs := [] } })]
 rets := { acts := [], S := { slots := [4], sh := (.cons (.dat (.int .i64)) .nil), obs := [] } }
 K := List (List (Int))
 V := (Int) × (Int)
 R := (Int) ⊕ (Unit)
 join := fun k v => ((k, (v.1, (v.2, ()))), ())
 sk := fun t => t.1.1
 sv := fun t => (t.1.2.1, t.1.2.2.1)
 step := S_lw_szIntSS_0
 leaf := fun _ r => .s (Int) (Unit) r (fun a => .l (.exit 0 (mkSt ({ slots := [1], sh := (.cons (.dat (.int .i64)) .nil), obs := [] }) ((a, ()), ())))) (fun _ => .l (.ret (mkSt ({ slots := [4], sh := (.cons (.dat (.int .i64)) .nil), obs := [] }) (((-1 : Int), ()), ()))))
noncomputable def T_lw_szIntSS (a1_ : List (List (Int))) (a2_ : Int) : Tr (Int) :=
 .t (decide ((IntKind.wrap .i64 (a2_ - ((List.length a1_ : Nat) : Int))) < (0 : Int)))
  (.l (-1 : Int))
  (.c ((Int) ⊕ (Unit)) (L_lw_szIntSS_0 a1_ ((IntKind.wrap .i64 (a2_ - ((List.length a1_ : Nat) : Int))), (0 : Int))) fun r7_ =>
   .s (Int) (Unit) r7_
    (fun r8_ => .l r8_)
    (fun _ => .l (-1 : Int)))
noncomputable def F_lw_szIntSS (a1_ : List (List (Int))) (a2_ : Int) : Option (Int) := (T_lw_szIntSS a1_ a2_).ev
noncomputable def A_lw_szIntSS : Sh := (.cons (.dat (.slice (.slice (.int .i64)))) (.cons (.dat (.int .i64)) .nil))
noncomputable def I_lw_szIntSS : List (Nat × OSh) := []
noncomputable def K_lw_szIntSS : RetK := { acts := [], res := [.tmp 4], sh := (.cons (.dat (.int .i64)) .nil), obs := [], pins := [] }
noncomputable def D_lw_szIntSS : FD where
 A := A_lw_szIntSS
 ins := I_lw_szIntSS
 lend := []
 R := Int
 F := fun x => F_lw_szIntSS x.1.1 x.1.2.1
 emb := fun r => ([.dat (.int .i64) r], [])
noncomputable def E_lw_szIntSS : Env := envOf [(64, D_lw_szIntS)]
noncomputable def Z_lw_szIntSS : Nat → Nat → List Nat := fun _ _ => []
noncomputable def O_lw_szIntSS : List (Nat × LD) := [(0, DL_lw_szIntSS_0)]
noncomputable def C_lw_szIntSS : Code := (f18.body).getD .skip
noncomputable def S_lw_szIntSSS_0 (k : List (List (List (Int)))) (v : (Int) × (Int)) : Tr (((Int) × (Int)) ⊕ ((Int) ⊕ (Unit))) :=
 .t (decide (v.2 < ((List.length k : Nat) : Int)))
  (.g (inR v.2 (List.length k)) <|
   .c (Int) (F_lw_szIntSS (List.getD k (Int.toNat v.2) ([] : List (List (Int)))) v.1) fun r4_ =>
   .t (decide (r4_ < (0 : Int)))
    (.l (.inr (.inr ())))
    (.l (.inl (r4_, (IntKind.wrap .i64 (v.2 + (1 : Int)))))))
  (.l (.inr (.inl v.1)))
noncomputable def L_lw_szIntSSS_0 (k : List (List (List (Int)))) (v : (Int) × (Int)) : Option ((Int) ⊕ (Unit)) := iter (fun v => (S_lw_szIntSSS_0 k v).ev) v
noncomputable def DL_lw_szIntSSS_0 : LD where
 head := { acts := [], S := { slots := [0, 1, 5], sh := (.cons (.dat (.slice (.slice (.slice (.int .i64))))) (.cons (.dat (.int .i64)) (.cons (.dat (.int .i64)) .nil))), obs := [] } }
 exits := [(0, { acts := [], S := { slots := [1], sh := (.cons (.dat (.int .i64)) .nil), obs := [] } })]
 rets := { acts := [], S := { slots := [4], sh := (.cons (.dat (.int .i64)) .nil), obs := [] } }
 K := List (List (List (Int)))
 V := (Int) × (Int)
 R := (Int) ⊕ (Unit)
 join := fun k v => ((k, (v.1, (v.2, ()))), ())
 sk := fun t => t.1.1
 sv := fun t => (t.1.2.1, t.1.2.2.1)
 step := S_lw_szIntSSS_0
 leaf := fun _ r => .s (Int) (Unit) r (fun a => .l (.exit 0 (mkSt ({ slots := [1], sh := (.cons (.dat (.int .i64)) .nil), obs := [] }) ((a, ()), ())))) (fun _ => .l (.ret (mkSt ({ slots := [4], sh := (.cons (.dat (.int .i64)) .nil), obs := [] }) (((-1 : Int), ()), ()))))
noncomputable def T_lw_szIntSSS (a1_ : List (List (List (Int)))) (a2_ : Int) : Tr (Int) :=
 .t (decide ((IntKind.wrap .i64 (a2_ - ((List.length a1_ : Nat) : Int))) < (0 : Int)))
  (.l (-1 : Int))
  (.c ((Int) ⊕ (Unit)) (L_lw_szIntSSS_0 a1_ ((IntKind.wrap .i64 (a2_ - ((List.length a1_ : Nat) : Int))), (0 : Int))) fun r7_ =>
   .s (Int) (Unit) r7_
    (fun r8_ => .l r8_)
    (fun _ => .l (-1 : Int)))
noncomputable def F_lw_szIntSSS (a1_ : List (List (List (Int)))) (a2_ : Int) : Option (Int) := (T_lw_szIntSSS a1_ a2_).ev
noncomputable def A_lw_szIntSSS : Sh := (.cons (.dat (.slice (.slice (.slice (.int .i64))))) (.cons (.dat (.int .i64)) .nil))
noncomputable def I_lw_szIntSSS : List (Nat × OSh) := []
noncomputable def K_lw_szIntSSS : RetK := { acts := [], res := [.tmp 4], sh := (.cons (.dat (.int .i64)) .nil), obs := [], pins := [] }
noncomputable def D_lw_szIntSSS : FD where
 A := A_lw_szIntSSS
 ins := I_lw_szIntSSS
 lend := []
 R := Int
 F := fun x => F_lw_szIntSSS x.1.1 x.1.2.1
 emb := fun r => ([.dat (.int .i64) r], [])
noncomputable def E_lw_szIntSSS : Env := envOf [(18, D_lw_szIntSS)]
noncomputable def Z_lw_szIntSSS : Nat → Nat → List Nat := fun _ _ => []
noncomputable def O_lw_szIntSSS : List (Nat × LD) := [(0, DL_lw_szIntSSS_0)]
noncomputable def C_lw_szIntSSS : Code := (f65.body).getD .skip
noncomputable def T_lw_szSeason (a1_ : List (Int)) (a2_ : List (Int)) (a3_ : List (Int)) (a4_ : List (List (List (Int)))) (a5_ : Int) : Tr (Int) :=
 .c (Int) (F_lw_szIntS a1_ a5_) fun r1_ =>
 .t (decide (r1_ < (0 : Int)))
  (.l (-1 : Int))
  (.c (Int) (F_lw_szIntS a2_ r1_) fun r2_ =>
   .t (decide (r2_ < (0 : Int)))
    (.l (-1 : Int))
    (.c (Int) (F_lw_szIntS a3_ r2_) fun r3_ =>
     .t (decide (r3_ < (0 : Int)))
      (.l (-1 : Int))
      (.c (Int) (F_lw_szIntSSS a4_ r3_) fun r4_ =>
       .t (decide (r4_ < (0 : Int)))
        (.l (-1 : Int))
        (.l r4_))))
noncomputable def F_lw_szSeason (a1_ : List (Int)) (a2_ : List (Int)) (a3_ : List (Int)) (a4_ : List (List (List (Int)))) (a5_ : Int) : Option (Int) := (T_lw_szSeason a1_ a2_ a3_ a4_ a5_).ev
noncomputable def A_lw_szSeason : Sh := (.cons (.agg (.cons (.dat (.slice (.int .i64))) (.cons (.dat (.slice (.int .i64))) (.cons (.dat (.slice (.int .i64))) (.cons (.dat (.slice (.slice (.slice (.int .i64))))) .nil))))) (.cons (.dat (.int .i64)) .nil))
noncomputable def I_lw_szSeason : List (Nat × OSh) := []
noncomputable def K_lw_szSeason : RetK := { acts := [], res := [.tmp 4], sh := (.cons (.dat (.int .i64)) .nil), obs := [], pins := [] }
noncomputable def D_lw_szSeason : FD where
 A := A_lw_szSeason
 ins := I_lw_szSeason
 lend := []
 R := Int
 F := fun x => F_lw_szSeason x.1.1.1 x.1.1.2.1 x.1.1.2.2.1 x.1.1.2.2.2.1 x.1.2.1
 emb := fun r => ([.dat (.int .i64) r], [])
noncomputable def E_lw_szSeason : Env := envOf [(64, D_lw_szIntS), (65, D_lw_szIntSSS)]
noncomputable def Z_lw_szSeason : Nat → Nat → List Nat := fun _ _ => []
noncomputable def O_lw_szSeason : List (Nat × LD) := []
noncomputable def C_lw_szSeason : Code := (f13.body).getD .skip
noncomputable def S_lw_toIntS_0 (k : List (Int)) (v : (Int) × (List (Int))) : Tr (((Int) × (List (Int))) ⊕ (List (Int))) :=
 .t (decide (v.1 < ((List.length k : Nat) : Int)))
  (.g (inR v.1 (List.length k)) <|
   .g (inR v.1 (List.length v.2)) <|
   .g (decide ((Int.toNat v.1) < List.length v.2)) <|
   .l (.inl ((IntKind.wrap .i64 (v.1 + (1 : Int))), (List.set v.2 (Int.toNat v.1) (List.getD k (Int.toNat v.1) (0 : Int))))))
  (.l (.inr v.2))
noncomputable def L_lw_toIntS_0 (k : List (Int)) (v : (Int) × (List (Int))) : Option (List (Int)) := iter (fun v => (S_lw_toIntS_0 k v).ev) v
noncomputable def DL_lw_toIntS_0 : LD where
 head := { acts := [], S := { slots := [0, 3, 4], sh := (.cons (.dat (.slice (.int .i64))) (.cons (.arr 7) (.cons (.dat (.int .i64)) .nil))), obs := [(7, .arr 3 (.int .i64))] } }
 exits := [(0, { acts := [], S := { slots := [3], sh := (.cons (.arr 7) .nil), obs := [(7, .arr 3 (.int .i64))] } })]
 rets := { acts := [], S := { slots := [], sh := .nil, obs := [] } }
 K := List (Int)
 V := (Int) × (List (Int))
 R := List (Int)
 join := fun k v => ((k, ((), (v.1, ()))), (v.2, ()))
 sk := fun t => t.1.1
 sv := fun t => (t.1.2.2.1, t.2.1)
 step := S_lw_toIntS_0
 leaf := fun _ r => .l (.exit 0 (mkSt ({ slots := [3], sh := (.cons (.arr 7) .nil), obs := [(7, .arr 3 (.int .i64))] }) (((), ()), (r, ()))))
noncomputable def T_lw_toIntS (a1_ : List (Int)) : Tr (List (Int)) :=
 .g (decide ((0 : Int) ≤ ((List.length a1_ : Nat) : Int)) && decide (((List.length a1_ : Nat) : Int) ≤ ((List.length a1_ : Nat) : Int)) && decide (((8 : Nat) : Int) * ((List.length a1_ : Nat) : Int) ≤ 281474976710656)) <|
 .c (List (Int)) (L_lw_toIntS_0 a1_ ((0 : Int), (List.replicate (Int.toNat ((List.length a1_ : Nat) : Int)) (0 : Int)))) fun r5_ =>
 .l r5_
noncomputable def F_lw_toIntS (a1_ : List (Int)) : Option (List (Int)) := (T_lw_toIntS a1_).ev
noncomputable def A_lw_toIntS : Sh := (.cons (.dat (.slice (.int .i64))) .nil)
noncomputable def I_lw_toIntS : List (Nat × OSh) := []
noncomputable def K_lw_toIntS : RetK := { acts := [.ren 7 0], res := [.tmp 2], sh := (.cons (.arr 0) .nil), obs := [(0, .arr 3 (.int .i64))], pins := [] }
noncomputable def D_lw_toIntS : FD where
 A := A_lw_toIntS
 ins := I_lw_toIntS
 lend := []
 R := List (Int)
 F := fun x => F_lw_toIntS x.1.1
 emb := fun r => ([.arr 0], [(0, .arr 3 (.int .i64) r)])
noncomputable def E_lw_toIntS : Env := envOf []
noncomputable def Z_lw_toIntS : Nat → Nat → List Nat := fun _ _ => []
noncomputable def O_lw_toIntS : List (Nat × LD) := [(0, DL_lw_toIntS_0)]
noncomputable def C_lw_toIntS : Code := (f39.body).getD .skip
noncomputable def S_lw_toIntSS_0 (k : List (List (Int))) (v : (Int) × (List (List (Int)))) : Tr (((Int) × (List (List (Int)))) ⊕ (List (List (Int)))) :=
 .t (decide (v.1 < ((List.length k : Nat) : Int)))
  (.g (inR v.1 (List.length k)) <|
   .c (List (Int)) (F_lw_toIntS (List.getD k (Int.toNat v.1) ([] : List (Int)))) fun r4_ =>
   .g (inR v.1 (List.length v.2)) <|
   .g (decide ((Int.toNat v.1) < List.length v.2)) <|
   .l (.inl ((IntKind.wrap .i64 (v.1 + (1 : Int))), (List.set v.2 (Int.toNat v.1) r4_))))
  (.l (.inr v.2))
noncomputable def L_lw_toIntSS_0 (k : List (List (Int))) (v : (Int) × (List (List (Int)))) : Option (List (List (Int))) := iter (fun v => (S_lw_toIntSS_0 k v).ev) v
noncomputable def DL_lw_toIntSS_0 : LD where
 head := { acts := [], S := { slots := [0, 3, 4], sh := (.cons (.dat (.slice (.slice (.int .i64)))) (.cons (.arr 7) (.cons (.dat (.int .i64)) .nil))), obs := [(7, .rows 22 3 (.int .i64))] } }
 exits := [(0, { acts := [], S := { slots := [3], sh := (.cons (.arr 7) .nil), obs := [(7, .rows 22 3 (.int .i64))] } })]
 rets := { acts := [], S := { slots := [], sh := .nil, obs := [] } }
 K := List (List (Int))
 V := (Int) × (List (List (Int)))
 R := List (List (Int))
 join := fun k v => ((k, ((), (v.1, ()))), (v.2, ()))
 sk := fun t => t.1.1
 sv := fun t => (t.1.2.2.1, t.2.1)
 step := S_lw_toIntSS_0
 leaf := fun _ r => .l (.exit 0 (mkSt ({ slots := [3], sh := (.cons (.arr 7) .nil), obs := [(7, .rows 22 3 (.int .i64))] }) (((), ()), (r, ()))))
noncomputable def T_lw_toIntSS (a1_ : List (List (Int))) : Tr (List (List (Int))) :=
 .g (decide ((0 : Int) ≤ ((List.length a1_ : Nat) : Int)) && decide (((List.length a1_ : Nat) : Int) ≤ ((List.length a1_ : Nat) : Int)) && decide (((24 : Nat) : Int) * ((List.length a1_ : Nat) : Int) ≤ 281474976710656)) <|
 .c (List (List (Int))) (L_lw_toIntSS_0 a1_ ((0 : Int), (List.replicate (Int.toNat ((List.length a1_ : Nat) : Int)) ([] : List (Int))))) fun r6_ =>
 .l r6_
noncomputable def F_lw_toIntSS (a1_ : List (List (Int))) : Option (List (List (Int))) := (T_lw_toIntSS a1_).ev
noncomputable def A_lw_toIntSS : Sh := (.cons (.dat (.slice (.slice (.int .i64)))) .nil)
noncomputable def I_lw_toIntSS : List (Nat × OSh) := []
noncomputable def K_lw_toIntSS : RetK := { acts := [.ren 7 0], res := [.tmp 2], sh := (.cons (.arr 0) .nil), obs := [(0, .rows 22 3 (.int .i64))], pins := [] }
noncomputable def D_lw_toIntSS : FD where
 A := A_lw_toIntSS
 ins := I_lw_toIntSS
 lend := []
 R := List (List (Int))
 F := fun x => F_lw_toIntSS x.1.1
 emb := fun r => ([.arr 0], [(0, .rows 22 3 (.int .i64) r none)])
noncomputable def E_lw_toIntSS : Env := envOf [(39, D_lw_toIntS)]
noncomputable def Z_lw_toIntSS : Nat → Nat → List Nat := fun r i => match look [(1, [(2, [1000000])])] r with
 | some l => (look l i).getD []
 | none => []
noncomputable def O_lw_toIntSS : List (Nat × LD) := [(0, DL_lw_toIntSS_0)]
noncomputable def C_lw_toIntSS : Code := (f20.body).getD .skip
noncomputable def S_lw_toIntSSS_0 (k : List (List (List (Int)))) (v : (Int) × (List (List (List (Int))))) : Tr (((Int) × (List (List (List (Int))))) ⊕ (List (List (List (Int))))) :=
 .t (decide (v.1 < ((List.length k : Nat) : Int)))
  (.g (inR v.1 (List.length k)) <|
   .c (List (List (Int))) (F_lw_toIntSS (List.getD k (Int.toNat v.1) ([] : List (List (Int))))) fun r4_ =>
   .g (inR v.1 (List.length v.2)) <|
   .g (decide ((Int.toNat v.1) < List.length v.2)) <|
   .l (.inl ((IntKind.wrap .i64 (v.1 + (1 : Int))), (List.set v.2 (Int.toNat v.1) r4_))))
  (.l (.inr v.2))
noncomputable def L_lw_toIntSSS_0 (k : List (List (List (Int)))) (v : (Int) × (List (List (List (Int))))) : Option (List (List (List (Int)))) := iter (fun v => (S_lw_toIntSSS_0 k v).ev) v
noncomputable def DL_lw_toIntSSS_0 : LD where
 head := { acts := [], S := { slots := [0, 3, 4], sh := (.cons (.dat (.slice (.slice (.slice (.int .i64))))) (.cons (.arr 7) (.cons (.dat (.int .i64)) .nil))), obs := [(7, .deep 33 (.slice (.slice (.int .i64))))] } }
 exits := [(0, { acts := [], S := { slots := [3], sh := (.cons (.arr 7) .nil), obs := [(7, .deep 33 (.slice (.slice (.int .i64))))] } })]
 rets := { acts := [], S := { slots := [], sh := .nil, obs := [] } }
 K := List (List (List (Int)))
 V := (Int) × (List (List (List (Int))))
 R := List (List (List (Int)))
 join := fun k v => ((k, ((), (v.1, ()))), (v.2, ()))
 sk := fun t => t.1.1
 sv := fun t => (t.1.2.2.1, t.2.1)
 step := S_lw_toIntSSS_0
 leaf := fun _ r => .l (.exit 0 (mkSt ({ slots := [3], sh := (.cons (.arr 7) .nil), obs := [(7, .deep 33 (.slice (.slice (.int .i64))))] }) (((), ()), (r, ()))))
noncomputable def T_lw_toIntSSS (a1_ : List (List (List (Int)))) : Tr (List (List (List (Int)))) :=
 .g (decide ((0 : Int) ≤ ((List.length a1_ : Nat) : Int)) && decide (((List.length a1_ : Nat) : Int) ≤ ((List.length a1_ : Nat) : Int)) && decide (((24 : Nat) : Int) * ((List.length a1_ : Nat) : Int) ≤ 281474976710656)) <|
 .c (List (List (List (Int)))) (L_lw_toIntSSS_0 a1_ ((0 : Int), (List.replicate (Int.toNat ((List.length a1_ : Nat) : Int)) ([] : List (List (Int)))))) fun r6_ =>
 .l r6_
noncomputable def F_lw_toIntSSS (a1_ : List (List (List (Int)))) : Option (List (List (List (Int)))) := (T_lw_toIntSSS a1_).ev
noncomputable def A_lw_toIntSSS : Sh := (.cons (.dat (.slice (.slice (.slice (.int .i64))))) .nil)
noncomputable def I_lw_toIntSSS : List (Nat × OSh) := []
noncomputable def K_lw_toIntSSS : RetK := { acts := [.ren 7 0], res := [.tmp 2], sh := (.cons (.arr 0) .nil), obs := [(0, .deep 33 (.slice (.slice (.int .i64))))], pins := [] }
noncomputable def D_lw_toIntSSS : FD where
 A := A_lw_toIntSSS
 ins := I_lw_toIntSSS
 lend := []
 R := List (List (List (Int)))
 F := fun x => F_lw_toIntSSS x.1.1
 emb := fun r => ([.arr 0], [(0, .deep 33 (.slice (.slice (.int .i64))) r)])
noncomputable def E_lw_toIntSSS : Env := envOf [(20, D_lw_toIntSS)]
noncomputable def Z_lw_toIntSSS : Nat → Nat → List Nat := fun r i => match look [(1, [(2, [1000000])])] r with
 | some l => (look l i).getD []
 | none => []
noncomputable def O_lw_toIntSSS : List (Nat × LD) := [(0, DL_lw_toIntSSS_0)]
noncomputable def C_lw_toIntSSS : Code := (f68.body).getD .skip
noncomputable def T_lw_toSeason (a1_ : List (Int)) (a2_ : List (Int)) (a3_ : List (Int)) (a4_ : List (List (List (Int)))) : Tr ((List (Int)) × ((List (Int)) × ((List (Int)) × (List (List (List (Int))))))) :=
 .c (List (Int)) (F_lw_toIntS a1_) fun r1_ =>
 .c (List (Int)) (F_lw_toIntS a2_) fun r2_ =>
 .c (List (Int)) (F_lw_toIntS a3_) fun r3_ =>
 .c (List (List (List (Int)))) (F_lw_toIntSSS a4_) fun r4_ =>
 .l (r1_, (r2_, (r3_, r4_)))
noncomputable def F_lw_toSeason (a1_ : List (Int)) (a2_ : List (Int)) (a3_ : List (Int)) (a4_ : List (List (List (Int)))) : Option ((List (Int)) × ((List (Int)) × ((List (Int)) × (List (List (List (Int))))))) := (T_lw_toSeason a1_ a2_ a3_ a4_).ev
noncomputable def A_lw_toSeason : Sh := (.cons (.agg (.cons (.dat (.slice (.int .i64))) (.cons (.dat (.slice (.int .i64))) (.cons (.dat (.slice (.int .i64))) (.cons (.dat (.slice (.slice (.slice (.int .i64))))) .nil))))) .nil)
noncomputable def I_lw_toSeason : List (Nat × OSh) := []
noncomputable def K_lw_toSeason : RetK := { acts := [.ren 384 4, .ren 640 5, .ren 896 6, .ren 1152 7], res := [.cell 2 29], sh := (.cons (.agg (.cons (.arr 4) (.cons (.arr 5) (.cons (.arr 6) (.cons (.arr 7) .nil))))) .nil), obs := [(4, .arr 3 (.int .i64)), (5, .arr 3 (.int .i64)), (6, .arr 3 (.int .i64)), (7, .deep 33 (.slice (.slice (.int .i64))))], pins := [] }
noncomputable def D_lw_toSeason : FD where
 A := A_lw_toSeason
 ins := I_lw_toSeason
 lend := []
 R := (List (Int)) × ((List (Int)) × ((List (Int)) × (List (List (List (Int))))))
 F := fun x => F_lw_toSeason x.1.1.1 x.1.1.2.1 x.1.1.2.2.1 x.1.1.2.2.2.1
 emb := fun r => ([.agg [.arr 4, .arr 5, .arr 6, .arr 7]], [(4, .arr 3 (.int .i64) r.1), (5, .arr 3 (.int .i64) r.2.1), (6, .arr 3 (.int .i64) r.2.2.1), (7, .deep 33 (.slice (.slice (.int .i64))) r.2.2.2)])
noncomputable def E_lw_toSeason : Env := envOf [(39, D_lw_toIntS), (68, D_lw_toIntSSS)]
noncomputable def Z_lw_toSeason : Nat → Nat → List Nat := fun _ _ => []
noncomputable def O_lw_toSeason : List (Nat × LD) := []
noncomputable def C_lw_toSeason : Code := (f15.body).getD .skip
noncomputable def T_sp_l1In (a1_ : Int) (a2_ : Int) (a3_ : Int) : Tr (Bool) :=
 .t (decide (a2_ ≤ a1_))
  (.l (decide (a1_ ≤ a3_)))
  (.l false)
noncomputable def F_sp_l1In (a1_ : Int) (a2_ : Int) (a3_ : Int) : Option (Bool) := (T_sp_l1In a1_ a2_ a3_).ev
noncomputable def A_sp_l1In : Sh := (.cons (.dat (.int .i64)) (.cons (.dat (.int .i64)) (.cons (.dat (.int .i64)) .nil)))
noncomputable def I_sp_l1In : List (Nat × OSh) := []
noncomputable def K_sp_l1In : RetK := { acts := [], res := [.tmp 6], sh := (.cons (.dat .bool) .nil), obs := [], pins := [] }
noncomputable def D_sp_l1In : FD where
 A := A_sp_l1In
 ins := I_sp_l1In
 lend := []
 R := Bool
 F := fun x => F_sp_l1In x.1.1 x.1.2.1 x.1.2.2.1
 emb := fun r => ([.dat .bool r], [])
noncomputable def E_sp_l1In : Env := envOf []
noncomputable def Z_sp_l1In : Nat → Nat → List Nat := fun _ _ => []
noncomputable def O_sp_l1In : List (Nat × LD) := []
noncomputable def C_sp_l1In : Code := (f134.body).getD .skip
noncomputable def S_sp_l2Row_0 (k : (List (Int)) × ((Int) × (Int))) (v : Int) : Tr ((Int) ⊕ ((Unit) ⊕ (Unit))) :=
 .t (decide (v < ((List.length k.1 : Nat) : Int)))
  (.g (inR v (List.length k.1)) <|
   .c (Bool) (F_sp_l1In (List.getD k.1 (Int.toNat v) (0 : Int)) (0 : Int) k.2.2) fun r5_ =>
   .t (!r5_)
    (.l (.inr (.inr ())))
    (.l (.inl (IntKind.wrap .i64 (v + (1 : Int))))))
  (.l (.inr (.inl ())))
noncomputable def L_sp_l2Row_0 (k : (List (Int)) × ((Int) × (Int))) (v : Int) : Option ((Unit) ⊕ (Unit)) := iter (fun v => (S_sp_l2Row_0 k v).ev) v
noncomputable def DL_sp_l2Row_0 : LD where
 head := { acts := [], S := { slots := [0, 1, 2, 7], sh := (.cons (.dat (.slice (.int .i64))) (.cons (.dat (.int .i64)) (.cons (.dat (.int .i64)) (.cons (.dat (.int .i64)) .nil)))), obs := [] } }
 exits := [(0, { acts := [], S := { slots := [0, 1], sh := (.cons (.dat (.slice (.int .i64))) (.cons (.dat (.int .i64)) .nil)), obs := [] } })]
 rets := { acts := [], S := { slots := [6], sh := (.cons (.dat .bool) .nil), obs := [] } }
 K := (List (Int)) × ((Int) × (Int))
 V := Int
 R := (Unit) ⊕ (Unit)
 join := fun k v => ((k.1, (k.2.1, (k.2.2, (v, ())))), ())
 sk := fun t => (t.1.1, (t.1.2.1, t.1.2.2.1))
 sv := fun t => t.1.2.2.2.1
 step := S_sp_l2Row_0
 leaf := fun k r => .s (Unit) (Unit) r (fun _ => .l (.exit 0 (mkSt ({ slots := [0, 1], sh := (.cons (.dat (.slice (.int .i64))) (.cons (.dat (.int .i64)) .nil)), obs := [] }) ((k.1, (k.2.1, ())), ())))) (fun _ => .l (.ret (mkSt ({ slots := [6], sh := (.cons (.dat .bool) .nil), obs := [] }) ((false, ()), ()))))
noncomputable def T_sp_l2Row (a1_ : List (Int)) (a2_ : Int) (a3_ : Int) : Tr (Bool) :=
 .c ((Unit) ⊕ (Unit)) (L_sp_l2Row_0 (a1_, (a2_, a3_)) (0 : Int)) fun r9_ =>
 .s (Unit) (Unit) r9_
  (fun _ => .l (((List.length a1_ : Nat) : Int) == a2_))
  (fun _ => .l false)
noncomputable def F_sp_l2Row (a1_ : List (Int)) (a2_ : Int) (a3_ : Int) : Option (Bool) := (T_sp_l2Row a1_ a2_ a3_).ev
noncomputable def A_sp_l2Row : Sh := (.cons (.dat (.slice (.int .i64))) (.cons (.dat (.int .i64)) (.cons (.dat (.int .i64)) .nil)))
noncomputable def I_sp_l2Row : List (Nat × OSh) := []
noncomputable def K_sp_l2Row : RetK := { acts := [], res := [.tmp 6], sh := (.cons (.dat .bool) .nil), obs := [], pins := [] }
noncomputable def D_sp_l2Row : FD where
 A := A_sp_l2Row
 ins := I_sp_l2Row
 lend := []
 R := Bool
 F := fun x => F_sp_l2Row x.1.1 x.1.2.1 x.1.2.2.1
 emb := fun r => ([.dat .bool r], [])
noncomputable def E_sp_l2Row : Env := envOf [(134, D_sp_l1In)]
noncomputable def Z_sp_l2Row : Nat → Nat → List Nat := fun _ _ => []
noncomputable def O_sp_l2Row : List (Nat × LD) := [(0, DL_sp_l2Row_0)]
noncomputable def C_sp_l2Row : Code := (f133.body).getD .skip
noncomputable def S_sp_l10Good_2 (k : (Int) × ((Int) × ((List (Int)) × ((List (Int)) × ((List (Int)) × (List (List (List (Int))))))))) (v : Int) : Tr ((Int) ⊕ ((Unit) ⊕ (Unit))) :=
 .g (inR k.2.1 (List.length k.2.2.2.2.2)) <|
 .t (decide (v < ((List.length (List.getD k.2.2.2.2.2 (Int.toNat k.2.1) ([] : List (List (Int)))) : Nat) : Int)))
  (.g (inR k.2.1 (List.length k.2.2.2.2.2)) <|
   .g (inR v (List.length (List.getD k.2.2.2.2.2 (Int.toNat k.2.1) ([] : List (List (Int)))))) <|
   .c (Bool) (F_sp_l2Row (List.getD (List.getD k.2.2.2.2.2 (Int.toNat k.2.1) ([] : List (List (Int)))) (Int.toNat v) ([] : List (Int))) k.1 (99 : Int)) fun r14_ =>
   .t (!r14_)
    (.l (.inr (.inr ())))
    (.l (.inl (IntKind.wrap .i64 (v + (1 : Int))))))
  (.l (.inr (.inl ())))
noncomputable def L_sp_l10Good_2 (k : (Int) × ((Int) × ((List (Int)) × ((List (Int)) × ((List (Int)) × (List (List (List (Int))))))))) (v : Int) : Option ((Unit) ⊕ (Unit)) := iter (fun v => (S_sp_l10Good_2 k v).ev) v
noncomputable def DL_sp_l10Good_2 : LD where
 head := { acts := [], S := { slots := [1, 3, 4, 5], sh := (.cons (.box 1 0) (.cons (.dat (.int .i64)) (.cons (.dat (.int .i64)) (.cons (.dat (.int .i64)) .nil)))), obs := [(1, .cells (.cons (.dat (.slice (.int .i64))) (.cons (.dat (.slice (.int .i64))) (.cons (.dat (.slice (.int .i64))) (.cons (.dat (.slice (.slice (.slice (.int .i64))))) .nil)))))] } }
 exits := [(2, { acts := [], S := { slots := [1, 3, 4], sh := (.cons (.box 1 0) (.cons (.dat (.int .i64)) (.cons (.dat (.int .i64)) .nil))), obs := [(1, .cells (.cons (.dat (.slice (.int .i64))) (.cons (.dat (.slice (.int .i64))) (.cons (.dat (.slice (.int .i64))) (.cons (.dat (.slice (.slice (.slice (.int .i64))))) .nil)))))] } })]
 rets := { acts := [], S := { slots := [2], sh := (.cons (.dat .bool) .nil), obs := [] } }
 K := (Int) × ((Int) × ((List (Int)) × ((List (Int)) × ((List (Int)) × (List (List (List (Int))))))))
 V := Int
 R := (Unit) ⊕ (Unit)
 join := fun k v => (((), (k.1, (k.2.1, (v, ())))), ((k.2.2.1, (k.2.2.2.1, (k.2.2.2.2.1, (k.2.2.2.2.2, ())))), ()))
 sk := fun t => (t.1.2.1, (t.1.2.2.1, (t.2.1.1, (t.2.1.2.1, (t.2.1.2.2.1, t.2.1.2.2.2.1)))))
 sv := fun t => t.1.2.2.2.1
 step := S_sp_l10Good_2
 leaf := fun k r => .s (Unit) (Unit) r (fun _ => .l (.exit 2 (mkSt ({ slots := [1, 3, 4], sh := (.cons (.box 1 0) (.cons (.dat (.int .i64)) (.cons (.dat (.int .i64)) .nil))), obs := [(1, .cells (.cons (.dat (.slice (.int .i64))) (.cons (.dat (.slice (.int .i64))) (.cons (.dat (.slice (.int .i64))) (.cons (.dat (.slice (.slice (.slice (.int .i64))))) .nil)))))] }) (((), (k.1, (k.2.1, ()))), ((k.2.2.1, (k.2.2.2.1, (k.2.2.2.2.1, (k.2.2.2.2.2, ())))), ()))))) (fun _ => .l (.ret (mkSt ({ slots := [2], sh := (.cons (.dat .bool) .nil), obs := [] }) ((false, ()), ()))))
noncomputable def S_sp_l10Good_0 (k : (Int) × ((List (Int)) × ((List (Int)) × ((List (Int)) × (List (List (List (Int)))))))) (v : Int) : Tr ((Int) ⊕ ((Unit) ⊕ (Unit))) :=
 .t (decide (v < ((List.length k.2.2.2.2 : Nat) : Int)))
  (.c ((Unit) ⊕ (Unit)) (L_sp_l10Good_2 (k.1, (v, (k.2.1, (k.2.2.1, (k.2.2.2.1, k.2.2.2.2))))) (0 : Int)) fun r22_ =>
   .s (Unit) (Unit) r22_
    (fun _ => .g (inR v (List.length k.2.2.2.2)) <|
     .t (decide ((5 : Int) < ((List.length (List.getD k.2.2.2.2 (Int.toNat v) ([] : List (List (Int)))) : Nat) : Int)))
      (.l (.inr (.inr ())))
      (.l (.inl (IntKind.wrap .i64 (v + (1 : Int))))))
    (fun _ => .l (.inr (.inr ()))))
  (.l (.inr (.inl ())))
noncomputable def L_sp_l10Good_0 (k : (Int) × ((List (Int)) × ((List (Int)) × ((List (Int)) × (List (List (List (Int)))))))) (v : Int) : Option ((Unit) ⊕ (Unit)) := iter (fun v => (S_sp_l10Good_0 k v).ev) v
noncomputable def DL_sp_l10Good_0 : LD where
 head := { acts := [], S := { slots := [1, 3, 4], sh := (.cons (.box 1 0) (.cons (.dat (.int .i64)) (.cons (.dat (.int .i64)) .nil))), obs := [(1, .cells (.cons (.dat (.slice (.int .i64))) (.cons (.dat (.slice (.int .i64))) (.cons (.dat (.slice (.int .i64))) (.cons (.dat (.slice (.slice (.slice (.int .i64))))) .nil)))))] } }
 exits := [(0, { acts := [], S := { slots := [1, 3], sh := (.cons (.box 1 0) (.cons (.dat (.int .i64)) .nil)), obs := [(1, .cells (.cons (.dat (.slice (.int .i64))) (.cons (.dat (.slice (.int .i64))) (.cons (.dat (.slice (.int .i64))) (.cons (.dat (.slice (.slice (.slice (.int .i64))))) .nil)))))] } })]
 rets := { acts := [], S := { slots := [2], sh := (.cons (.dat .bool) .nil), obs := [] } }
 K := (Int) × ((List (Int)) × ((List (Int)) × ((List (Int)) × (List (List (List (Int)))))))
 V := Int
 R := (Unit) ⊕ (Unit)
 join := fun k v => (((), (k.1, (v, ()))), ((k.2.1, (k.2.2.1, (k.2.2.2.1, (k.2.2.2.2, ())))), ()))
 sk := fun t => (t.1.2.1, (t.2.1.1, (t.2.1.2.1, (t.2.1.2.2.1, t.2.1.2.2.2.1))))
 sv := fun t => t.1.2.2.1
 step := S_sp_l10Good_0
 leaf := fun k r => .s (Unit) (Unit) r (fun _ => .l (.exit 0 (mkSt ({ slots := [1, 3], sh := (.cons (.box 1 0) (.cons (.dat (.int .i64)) .nil)), obs := [(1, .cells (.cons (.dat (.slice (.int .i64))) (.cons (.dat (.slice (.int .i64))) (.cons (.dat (.slice (.int .i64))) (.cons (.dat (.slice (.slice (.slice (.int .i64))))) .nil)))))] }) (((), (k.1, ())), ((k.2.1, (k.2.2.1, (k.2.2.2.1, (k.2.2.2.2, ())))), ()))))) (fun _ => .l (.ret (mkSt ({ slots := [2], sh := (.cons (.dat .bool) .nil), obs := [] }) ((false, ()), ()))))
noncomputable def T_sp_l10Good (a1_ : List (Int)) (a2_ : List (Int)) (a3_ : List (Int)) (a4_ : List (List (List (Int)))) : Tr (Bool) :=
 .c ((Unit) ⊕ (Unit)) (L_sp_l10Good_0 (((List.length a1_ : Nat) : Int), (a1_, (a2_, (a3_, a4_)))) (0 : Int)) fun r31_ =>
 .s (Unit) (Unit) r31_
  (fun _ => .c (Bool) (F_sp_l1In ((List.length a1_ : Nat) : Int) (1 : Int) (5 : Int)) fun r34_ =>
   .t r34_
    (.c (Bool) (F_sp_l2Row a1_ ((List.length a1_ : Nat) : Int) (99 : Int)) fun r35_ =>
     .t r35_
      (.c (Bool) (F_sp_l2Row a2_ ((List.length a1_ : Nat) : Int) (99 : Int)) fun r36_ =>
       .t r36_
        (.c (Bool) (F_sp_l2Row a3_ ((List.length a1_ : Nat) : Int) (99 : Int)) fun r37_ =>
         .t r37_
          (.l (decide (((List.length a4_ : Nat) : Int) ≤ (5 : Int))))
          (.l false))
        (.l false))
      (.l false))
    (.l false))
  (fun _ => .l false)
noncomputable def F_sp_l10Good (a1_ : List (Int)) (a2_ : List (Int)) (a3_ : List (Int)) (a4_ : List (List (List (Int)))) : Option (Bool) := (T_sp_l10Good a1_ a2_ a3_ a4_).ev
noncomputable def A_sp_l10Good : Sh := (.cons (.agg (.cons (.dat (.slice (.int .i64))) (.cons (.dat (.slice (.int .i64))) (.cons (.dat (.slice (.int .i64))) (.cons (.dat (.slice (.slice (.slice (.int .i64))))) .nil))))) .nil)
noncomputable def I_sp_l10Good : List (Nat × OSh) := []
noncomputable def K_sp_l10Good : RetK := { acts := [], res := [.tmp 2], sh := (.cons (.dat .bool) .nil), obs := [], pins := [] }
noncomputable def D_sp_l10Good : FD where
 A := A_sp_l10Good
 ins := I_sp_l10Good
 lend := []
 R := Bool
 F := fun x => F_sp_l10Good x.1.1.1 x.1.1.2.1 x.1.1.2.2.1 x.1.1.2.2.2.1
 emb := fun r => ([.dat .bool r], [])
noncomputable def E_sp_l10Good : Env := envOf [(133, D_sp_l2Row), (134, D_sp_l1In)]
noncomputable def Z_sp_l10Good : Nat → Nat → List Nat := fun _ _ => []
noncomputable def O_sp_l10Good : List (Nat × LD) := [(2, DL_sp_l10Good_2), (0, DL_sp_l10Good_0)]
noncomputable def C_sp_l10Good : Code := (f66.body).getD .skip
noncomputable def S_sp_l2Bits_0 (k : (Int) × (Int)) (v : (Int) × (List (Int))) : Tr (((Int) × (List (Int))) ⊕ (List (Int))) :=
 .t (decide (v.1 < k.1))
  (.g (decide ((0 : Int) ≤ v.1)) <|
   .t ((IntKind.wrap .i64 (BitVec.toNat ((BitVec.ofInt (IntKind.bits .i64) (Int.fdiv k.2 (2 ^ (min (Int.toNat v.1) (IntKind.bits .i64))))) &&& (BitVec.ofInt (IntKind.bits .i64) (1 : Int))))) == (1 : Int))
    (.g (decide ((List.length v.2 + List.length ([v.1] : List (Int))) * 8 ≤ 140737488355328)) <|
     .l (.inl ((IntKind.wrap .i64 (v.1 + (1 : Int))), (v.2 ++ ([v.1] : List (Int))))))
    (.l (.inl ((IntKind.wrap .i64 (v.1 + (1 : Int))), v.2))))
  (.l (.inr v.2))
noncomputable def L_sp_l2Bits_0 (k : (Int) × (Int)) (v : (Int) × (List (Int))) : Option (List (Int)) := iter (fun v => (S_sp_l2Bits_0 k v).ev) v
noncomputable def DL_sp_l2Bits_0 : LD where
 head := { acts := [], S := { slots := [0, 1, 5, 6], sh := (.cons (.dat (.int .i64)) (.cons (.dat (.int .i64)) (.cons (.arr 7) (.cons (.dat (.int .i64)) .nil)))), obs := [(7, .arr 3 (.int .i64))] } }
 exits := [(0, { acts := [], S := { slots := [5], sh := (.cons (.arr 7) .nil), obs := [(7, .arr 3 (.int .i64))] } })]
 rets := { acts := [], S := { slots := [], sh := .nil, obs := [] } }
 K := (Int) × (Int)
 V := (Int) × (List (Int))
 R := List (Int)
 join := fun k v => ((k.1, (k.2, ((), (v.1, ())))), (v.2, ()))
 sk := fun t => (t.1.1, t.1.2.1)
 sv := fun t => (t.1.2.2.2.1, t.2.1)
 step := S_sp_l2Bits_0
 leaf := fun _ r => .l (.exit 0 (mkSt ({ slots := [5], sh := (.cons (.arr 7) .nil), obs := [(7, .arr 3 (.int .i64))] }) (((), ()), (r, ()))))
noncomputable def T_sp_l2Bits (a1_ : Int) (a2_ : Int) : Tr (List (Int)) :=
 .c (List (Int)) (L_sp_l2Bits_0 (a1_, a2_) ((0 : Int), ([] : List (Int)))) fun r6_ =>
 .l r6_
noncomputable def F_sp_l2Bits (a1_ : Int) (a2_ : Int) : Option (List (Int)) := (T_sp_l2Bits a1_ a2_).ev
noncomputable def A_sp_l2Bits : Sh := (.cons (.dat (.int .i64)) (.cons (.dat (.int .i64)) .nil))
noncomputable def I_sp_l2Bits : List (Nat × OSh) := []
noncomputable def K_sp_l2Bits : RetK := { acts := [.ren 7 0], res := [.tmp 4], sh := (.cons (.arr 0) .nil), obs := [(0, .arr 3 (.int .i64))], pins := [] }
noncomputable def D_sp_l2Bits : FD where
 A := A_sp_l2Bits
 ins := I_sp_l2Bits
 lend := []
 R := List (Int)
 F := fun x => F_sp_l2Bits x.1.1 x.1.2.1
 emb := fun r => ([.arr 0], [(0, .arr 3 (.int .i64) r)])
noncomputable def E_sp_l2Bits : Env := envOf []
noncomputable def Z_sp_l2Bits : Nat → Nat → List Nat := fun _ _ => []
noncomputable def O_sp_l2Bits : List (Nat × LD) := [(0, DL_sp_l2Bits_0)]
noncomputable def C_sp_l2Bits : Code := (f161.body).getD .skip
noncomputable def S_sp_l2Before_0 (k : (List (Int)) × (List (Int))) (v : Int) : Tr ((Int) ⊕ ((Unit) ⊕ (Bool))) :=
 .t (decide (v < ((List.length k.1 : Nat) : Int)))
  (.g (inR v (List.length k.1)) <|
   .g (inR v (List.length k.2)) <|
   .t ((List.getD k.1 (Int.toNat v) (0 : Int)) != (List.getD k.2 (Int.toNat v) (0 : Int)))
    (.g (inR v (List.length k.1)) <|
     .g (inR v (List.length k.2)) <|
     .l (.inr (.inr (decide ((List.getD k.1 (Int.toNat v) (0 : Int)) < (List.getD k.2 (Int.toNat v) (0 : Int)))))))
    (.l (.inl (IntKind.wrap .i64 (v + (1 : Int))))))
  (.l (.inr (.inl ())))
noncomputable def L_sp_l2Before_0 (k : (List (Int)) × (List (Int))) (v : Int) : Option ((Unit) ⊕ (Bool)) := iter (fun v => (S_sp_l2Before_0 k v).ev) v
noncomputable def DL_sp_l2Before_0 : LD where
 head := { acts := [], S := { slots := [0, 1, 5], sh := (.cons (.dat (.slice (.int .i64))) (.cons (.dat (.slice (.int .i64))) (.cons (.dat (.int .i64)) .nil))), obs := [] } }
 exits := [(0, { acts := [], S := { slots := [], sh := .nil, obs := [] } })]
 rets := { acts := [], S := { slots := [4], sh := (.cons (.dat .bool) .nil), obs := [] } }
 K := (List (Int)) × (List (Int))
 V := Int
 R := (Unit) ⊕ (Bool)
 join := fun k v => ((k.1, (k.2, (v, ()))), ())
 sk := fun t => (t.1.1, t.1.2.1)
 sv := fun t => t.1.2.2.1
 step := S_sp_l2Before_0
 leaf := fun _ r => .s (Unit) (Bool) r (fun _ => .l (.exit 0 (mkSt ({ slots := [], sh := .nil, obs := [] }) ((), ())))) (fun b => .l (.ret (mkSt ({ slots := [4], sh := (.cons (.dat .bool) .nil), obs := [] }) ((b, ()), ()))))
noncomputable def T_sp_l2Before (a1_ : List (Int)) (a2_ : List (Int)) : Tr (Bool) :=
 .t (((List.length a1_ : Nat) : Int) != ((List.length a2_ : Nat) : Int))
  (.l (decide (((List.length a1_ : Nat) : Int) < ((List.length a2_ : Nat) : Int))))
  (.c ((Unit) ⊕ (Bool)) (L_sp_l2Before_0 (a1_, a2_) (0 : Int)) fun r5_ =>
   .s (Unit) (Bool) r5_
    (fun _ => .l false)
    (fun r7_ => .l r7_))
noncomputable def F_sp_l2Before (a1_ : List (Int)) (a2_ : List (Int)) : Option (Bool) := (T_sp_l2Before a1_ a2_).ev
noncomputable def A_sp_l2Before : Sh := (.cons (.dat (.slice (.int .i64))) (.cons (.dat (.slice (.int .i64))) .nil))
noncomputable def I_sp_l2Before : List (Nat × OSh) := []
noncomputable def K_sp_l2Before : RetK := { acts := [], res := [.tmp 4], sh := (.cons (.dat .bool) .nil), obs := [], pins := [] }
noncomputable def D_sp_l2Before : FD where
 A := A_sp_l2Before
 ins := I_sp_l2Before
 lend := []
 R := Bool
 F := fun x => F_sp_l2Before x.1.1 x.1.2.1
 emb := fun r => ([.dat .bool r], [])
noncomputable def E_sp_l2Before : Env := envOf []
noncomputable def Z_sp_l2Before : Nat → Nat → List Nat := fun _ _ => []
noncomputable def O_sp_l2Before : List (Nat × LD) := [(0, DL_sp_l2Before_0)]
noncomputable def C_sp_l2Before : Code := (f162.body).getD .skip
noncomputable def S_sp_l2Sets_2 (k : (Int) × ((List (List (Int))) × ((Int) × (List (Int))))) (v : Int) : Tr ((Int) ⊕ (Int)) :=
 .t (decide ((0 : Int) < v))
  (.g (inR (IntKind.wrap .i64 (v - (1 : Int))) (List.length k.2.1)) <|
   .c (Bool) (F_sp_l2Before k.2.2.2 (List.getD k.2.1 (Int.toNat (IntKind.wrap .i64 (v - (1 : Int)))) ([] : List (Int)))) fun r26_ =>
   .t r26_
    (.l (.inl (IntKind.wrap .i64 (v - (1 : Int)))))
    (.l (.inr v)))
  (.l (.inr v))
noncomputable def L_sp_l2Sets_2 (k : (Int) × ((List (List (Int))) × ((Int) × (List (Int))))) (v : Int) : Option (Int) := iter (fun v => (S_sp_l2Sets_2 k v).ev) v
noncomputable def DL_sp_l2Sets_2 : LD where
 head := { acts := [], S := { slots := [0, 3, 4, 5, 6], sh := (.cons (.dat (.int .i64)) (.cons (.dat (.slice (.slice (.int .i64)))) (.cons (.dat (.int .i64)) (.cons (.arr 1024) (.cons (.dat (.int .i64)) .nil))))), obs := [(1024, .arr 3 (.int .i64))] } }
 exits := [(2, { acts := [], S := { slots := [0, 3, 4, 5, 6], sh := (.cons (.dat (.int .i64)) (.cons (.dat (.slice (.slice (.int .i64)))) (.cons (.dat (.int .i64)) (.cons (.arr 1024) (.cons (.dat (.int .i64)) .nil))))), obs := [(1024, .arr 3 (.int .i64))] } })]
 rets := { acts := [], S := { slots := [], sh := .nil, obs := [] } }
 K := (Int) × ((List (List (Int))) × ((Int) × (List (Int))))
 V := Int
 R := Int
 join := fun k v => ((k.1, (k.2.1, (k.2.2.1, ((), (v, ()))))), (k.2.2.2, ()))
 sk := fun t => (t.1.1, (t.1.2.1, (t.1.2.2.1, t.2.1)))
 sv := fun t => t.1.2.2.2.2.1
 step := S_sp_l2Sets_2
 leaf := fun k r => .l (.exit 2 (mkSt ({ slots := [0, 3, 4, 5, 6], sh := (.cons (.dat (.int .i64)) (.cons (.dat (.slice (.slice (.int .i64)))) (.cons (.dat (.int .i64)) (.cons (.arr 1024) (.cons (.dat (.int .i64)) .nil))))), obs := [(1024, .arr 3 (.int .i64))] }) ((k.1, (k.2.1, (k.2.2.1, ((), (r, ()))))), (k.2.2.2, ()))))
noncomputable def S_sp_l2Sets_0 (k : Int) (v : (List (List (Int))) × (Int)) : Tr (((List (List (Int))) × (Int)) ⊕ (List (List (Int)))) :=
 .g (decide ((0 : Int) ≤ k)) <|
 .t (decide (v.2 < (IntKind.wrap .i64 ((1 : Int) * 2 ^ (min (Int.toNat k) (IntKind.bits .i64))))))
  (.c (List (Int)) (F_sp_l2Bits k v.2) fun r20_ =>
   .c (Int) (L_sp_l2Sets_2 (k, (v.1, (v.2, r20_))) ((List.length v.1 : Nat) : Int)) fun r32_ =>
   .g (decide ((0 : Int) ≤ r32_) && decide (r32_ ≤ ((List.length v.1 : Nat) : Int))) <|
   .g (decide ((List.length ([] : List (List (Int))) + List.length (List.drop 0 (List.take (Int.toNat r32_) v.1))) * 24 ≤ 140737488355328)) <|
   .g (decide ((List.length (([] : List (List (Int))) ++ (List.drop 0 (List.take (Int.toNat r32_) v.1))) + List.length ([r20_] : List (List (Int)))) * 24 ≤ 140737488355328)) <|
   .g (decide ((0 : Int) ≤ r32_) && decide (r32_ ≤ ((List.length v.1 : Nat) : Int))) <|
   .g (decide ((List.length ((([] : List (List (Int))) ++ (List.drop 0 (List.take (Int.toNat r32_) v.1))) ++ ([r20_] : List (List (Int)))) + List.length (List.drop (Int.toNat r32_) (List.take (List.length v.1) v.1))) * 24 ≤ 140737488355328)) <|
   .l (.inl ((((([] : List (List (Int))) ++ (List.drop 0 (List.take (Int.toNat r32_) v.1))) ++ ([r20_] : List (List (Int)))) ++ (List.drop (Int.toNat r32_) (List.take (List.length v.1) v.1))), (IntKind.wrap .i64 (v.2 + (1 : Int))))))
  (.l (.inr v.1))
noncomputable def L_sp_l2Sets_0 (k : Int) (v : (List (List (Int))) × (Int)) : Option (List (List (Int))) := iter (fun v => (S_sp_l2Sets_0 k v).ev) v
noncomputable def DL_sp_l2Sets_0 : LD where
 head := { acts := [.fz 7, .fz 32], S := { slots := [0, 3, 4], sh := (.cons (.dat (.int .i64)) (.cons (.dat (.slice (.slice (.int .i64)))) (.cons (.dat (.int .i64)) .nil))), obs := [] } }
 exits := [(0, { acts := [], S := { slots := [3], sh := (.cons (.dat (.slice (.slice (.int .i64)))) .nil), obs := [] } })]
 rets := { acts := [], S := { slots := [], sh := .nil, obs := [] } }
 K := Int
 V := (List (List (Int))) × (Int)
 R := List (List (Int))
 join := fun k v => ((k, (v.1, (v.2, ()))), ())
 sk := fun t => t.1.1
 sv := fun t => (t.1.2.1, t.1.2.2.1)
 step := S_sp_l2Sets_0
 leaf := fun _ r => .l (.exit 0 (mkSt ({ slots := [3], sh := (.cons (.dat (.slice (.slice (.int .i64)))) .nil), obs := [] }) ((r, ()), ())))
noncomputable def T_sp_l2Sets (a1_ : Int) : Tr (List (List (Int))) :=
 .c (List (List (Int))) (L_sp_l2Sets_0 a1_ (([] : List (List (Int))), (1 : Int))) fun r34_ =>
 .l r34_
noncomputable def F_sp_l2Sets (a1_ : Int) : Option (List (List (Int))) := (T_sp_l2Sets a1_).ev
noncomputable def A_sp_l2Sets : Sh := (.cons (.dat (.int .i64)) .nil)
noncomputable def I_sp_l2Sets : List (Nat × OSh) := []
noncomputable def K_sp_l2Sets : RetK := { acts := [], res := [.tmp 2], sh := (.cons (.dat (.slice (.slice (.int .i64)))) .nil), obs := [], pins := [] }
noncomputable def D_sp_l2Sets : FD where
 A := A_sp_l2Sets
 ins := I_sp_l2Sets
 lend := []
 R := List (List (Int))
 F := fun x => F_sp_l2Sets x.1.1
 emb := fun r => ([.dat (.slice (.slice (.int .i64))) r], [])
noncomputable def E_sp_l2Sets : Env := envOf [(161, D_sp_l2Bits), (162, D_sp_l2Before)]
noncomputable def Z_sp_l2Sets : Nat → Nat → List Nat := fun r i => match look [(8, [(0, [3, 5])])] r with
 | some l => (look l i).getD []
 | none => []
noncomputable def O_sp_l2Sets : List (Nat × LD) := [(2, DL_sp_l2Sets_2), (0, DL_sp_l2Sets_0)]
noncomputable def C_sp_l2Sets : Code := (f114.body).getD .skip
noncomputable def T_sp_l10Sets (a1_ : List (Int)) (_a2_ : List (Int)) (_a3_ : List (Int)) (_a4_ : List (List (List (Int)))) : Tr (List (List (Int))) :=
 .c (List (List (Int))) (F_sp_l2Sets ((List.length a1_ : Nat) : Int)) fun r1_ =>
 .g (decide ((List.length ([([] : List (Int))] : List (List (Int))) + List.length r1_) * 24 ≤ 140737488355328)) <|
 .l (([([] : List (Int))] : List (List (Int))) ++ r1_)
noncomputable def F_sp_l10Sets (a1_ : List (Int)) (a2_ : List (Int)) (a3_ : List (Int)) (a4_ : List (List (List (Int)))) : Option (List (List (Int))) := (T_sp_l10Sets a1_ a2_ a3_ a4_).ev
noncomputable def A_sp_l10Sets : Sh := (.cons (.agg (.cons (.dat (.slice (.int .i64))) (.cons (.dat (.slice (.int .i64))) (.cons (.dat (.slice (.int .i64))) (.cons (.dat (.slice (.slice (.slice (.int .i64))))) .nil))))) .nil)
noncomputable def I_sp_l10Sets : List (Nat × OSh) := []
noncomputable def K_sp_l10Sets : RetK := { acts := [.ren 4 0], res := [.tmp 2], sh := (.cons (.arr 0) .nil), obs := [(0, .arr 22 (.slice (.int .i64)))], pins := [] }
noncomputable def D_sp_l10Sets : FD where
 A := A_sp_l10Sets
 ins := I_sp_l10Sets
 lend := []
 R := List (List (Int))
 F := fun x => F_sp_l10Sets x.1.1.1 x.1.1.2.1 x.1.1.2.2.1 x.1.1.2.2.2.1
 emb := fun r => ([.arr 0], [(0, .arr 22 (.slice (.int .i64)) r)])
noncomputable def E_sp_l10Sets : Env := envOf [(114, D_sp_l2Sets)]
noncomputable def Z_sp_l10Sets : Nat → Nat → List Nat := fun r i => match look [(1, [(1, [3])])] r with
 | some l => (look l i).getD []
 | none => []
noncomputable def O_sp_l10Sets : List (Nat × LD) := []
noncomputable def C_sp_l10Sets : Code := (f79.body).getD .skip
noncomputable def T_sp_l1Own (a1_ : List (Int)) : Tr (List (Int)) :=
 .g (decide ((List.length ([] : List (Int)) + List.length a1_) * 8 ≤ 140737488355328)) <|
 .l (([] : List (Int)) ++ a1_)
noncomputable def F_sp_l1Own (a1_ : List (Int)) : Option (List (Int)) := (T_sp_l1Own a1_).ev
noncomputable def A_sp_l1Own : Sh := (.cons (.dat (.slice (.int .i64))) .nil)
noncomputable def I_sp_l1Own : List (Nat × OSh) := []
noncomputable def K_sp_l1Own : RetK := { acts := [.ren 3 0], res := [.tmp 2], sh := (.cons (.arr 0) .nil), obs := [(0, .arr 3 (.int .i64))], pins := [] }
noncomputable def D_sp_l1Own : FD where
 A := A_sp_l1Own
 ins := I_sp_l1Own
 lend := []
 R := List (Int)
 F := fun x => F_sp_l1Own x.1.1
 emb := fun r => ([.arr 0], [(0, .arr 3 (.int .i64) r)])
noncomputable def E_sp_l1Own : Env := envOf []
noncomputable def Z_sp_l1Own : Nat → Nat → List Nat := fun _ _ => []
noncomputable def O_sp_l1Own : List (Nat × LD) := []
noncomputable def C_sp_l1Own : Code := (f82.body).getD .skip
noncomputable def S_sp_l10Same_0 (k : (List (Int)) × ((List (Int)) × ((List (Int)) × ((List (Int)) × (List (List (List (Int)))))))) (v : (Int) × (List (List (Int)))) : Tr (((Int) × (List (List (Int)))) ⊕ (List (List (Int)))) :=
 .t (decide (v.1 < ((List.length k.2.2.2.2 : Nat) : Int)))
  (.c (List (Int)) (F_sp_l1Own k.1) fun r8_ =>
   .g (decide ((List.length v.2 + 1) * 24 ≤ 140737488355328)) <|
   .l (.inl ((IntKind.wrap .i64 (v.1 + (1 : Int))), (List.set (v.2 ++ [[]]) (List.length v.2) r8_))))
  (.l (.inr v.2))
noncomputable def L_sp_l10Same_0 (k : (List (Int)) × ((List (Int)) × ((List (Int)) × ((List (Int)) × (List (List (List (Int)))))))) (v : (Int) × (List (List (Int)))) : Option (List (List (Int))) := iter (fun v => (S_sp_l10Same_0 k v).ev) v
noncomputable def DL_sp_l10Same_0 : LD where
 head := { acts := [], S := { slots := [1, 2, 5, 6], sh := (.cons (.dat (.slice (.int .i64))) (.cons (.box 2 0) (.cons (.arr 7) (.cons (.dat (.int .i64)) .nil)))), obs := [(2, .cells (.cons (.dat (.slice (.int .i64))) (.cons (.dat (.slice (.int .i64))) (.cons (.dat (.slice (.int .i64))) (.cons (.dat (.slice (.slice (.slice (.int .i64))))) .nil))))), (7, .rows 22 3 (.int .i64))] } }
 exits := [(0, { acts := [], S := { slots := [5], sh := (.cons (.arr 7) .nil), obs := [(7, .rows 22 3 (.int .i64))] } })]
 rets := { acts := [], S := { slots := [], sh := .nil, obs := [] } }
 K := (List (Int)) × ((List (Int)) × ((List (Int)) × ((List (Int)) × (List (List (List (Int)))))))
 V := (Int) × (List (List (Int)))
 R := List (List (Int))
 join := fun k v => ((k.1, ((), ((), (v.1, ())))), ((k.2.1, (k.2.2.1, (k.2.2.2.1, (k.2.2.2.2, ())))), (v.2, ())))
 sk := fun t => (t.1.1, (t.2.1.1, (t.2.1.2.1, (t.2.1.2.2.1, t.2.1.2.2.2.1))))
 sv := fun t => (t.1.2.2.2.1, t.2.2.1)
 step := S_sp_l10Same_0
 leaf := fun _ r => .l (.exit 0 (mkSt ({ slots := [5], sh := (.cons (.arr 7) .nil), obs := [(7, .rows 22 3 (.int .i64))] }) (((), ()), (r, ()))))
noncomputable def T_sp_l10Same (a1_ : List (Int)) (a2_ : List (Int)) (a3_ : List (Int)) (a4_ : List (List (List (Int)))) (a5_ : List (Int)) : Tr (List (List (Int))) :=
 .c (List (List (Int))) (L_sp_l10Same_0 (a5_, (a1_, (a2_, (a3_, a4_)))) ((0 : Int), ([] : List (List (Int))))) fun r10_ =>
 .l r10_
noncomputable def F_sp_l10Same (a1_ : List (Int)) (a2_ : List (Int)) (a3_ : List (Int)) (a4_ : List (List (List (Int)))) (a5_ : List (Int)) : Option (List (List (Int))) := (T_sp_l10Same a1_ a2_ a3_ a4_ a5_).ev
noncomputable def A_sp_l10Same : Sh := (.cons (.agg (.cons (.dat (.slice (.int .i64))) (.cons (.dat (.slice (.int .i64))) (.cons (.dat (.slice (.int .i64))) (.cons (.dat (.slice (.slice (.slice (.int .i64))))) .nil))))) (.cons (.dat (.slice (.int .i64))) .nil))
noncomputable def I_sp_l10Same : List (Nat × OSh) := []
noncomputable def K_sp_l10Same : RetK := { acts := [.ren 7 0], res := [.tmp 4], sh := (.cons (.arr 0) .nil), obs := [(0, .rows 22 3 (.int .i64))], pins := [] }
noncomputable def D_sp_l10Same : FD where
 A := A_sp_l10Same
 ins := I_sp_l10Same
 lend := []
 R := List (List (Int))
 F := fun x => F_sp_l10Same x.1.1.1 x.1.1.2.1 x.1.1.2.2.1 x.1.1.2.2.2.1 x.1.2.1
 emb := fun r => ([.arr 0], [(0, .rows 22 3 (.int .i64) r none)])
noncomputable def E_sp_l10Same : Env := envOf [(82, D_sp_l1Own)]
noncomputable def Z_sp_l10Same : Nat → Nat → List Nat := fun r i => match look [(1, [(0, [1000000])])] r with
 | some l => (look l i).getD []
 | none => []
noncomputable def O_sp_l10Same : List (Nat × LD) := [(0, DL_sp_l10Same_0)]
noncomputable def C_sp_l10Same : Code := (f92.body).getD .skip
noncomputable def S_sp_l1Rising_0 (k : (List (Int)) × ((Int) × (Int))) (v : Int) : Tr ((Int) ⊕ ((Unit) ⊕ (Unit))) :=
 .t (decide (v < ((List.length k.1 : Nat) : Int)))
  (.g (inR v (List.length k.1)) <|
   .c (Bool) (F_sp_l1In (List.getD k.1 (Int.toNat v) (0 : Int)) k.2.1 k.2.2) fun r5_ =>
   .t (!r5_)
    (.l (.inr (.inr ())))
    (.t (decide ((0 : Int) < v))
      (.g (inR (IntKind.wrap .i64 (v - (1 : Int))) (List.length k.1)) <|
       .g (inR v (List.length k.1)) <|
       .t (decide ((List.getD k.1 (Int.toNat v) (0 : Int)) ≤ (List.getD k.1 (Int.toNat (IntKind.wrap .i64 (v - (1 : Int)))) (0 : Int))))
        (.l (.inr (.inr ())))
        (.l (.inl (IntKind.wrap .i64 (v + (1 : Int))))))
      (.l (.inl (IntKind.wrap .i64 (v + (1 : Int)))))))
  (.l (.inr (.inl ())))
noncomputable def L_sp_l1Rising_0 (k : (List (Int)) × ((Int) × (Int))) (v : Int) : Option ((Unit) ⊕ (Unit)) := iter (fun v => (S_sp_l1Rising_0 k v).ev) v
noncomputable def DL_sp_l1Rising_0 : LD where
 head := { acts := [], S := { slots := [0, 1, 2, 7], sh := (.cons (.dat (.slice (.int .i64))) (.cons (.dat (.int .i64)) (.cons (.dat (.int .i64)) (.cons (.dat (.int .i64)) .nil)))), obs := [] } }
 exits := [(0, { acts := [], S := { slots := [], sh := .nil, obs := [] } })]
 rets := { acts := [], S := { slots := [6], sh := (.cons (.dat .bool) .nil), obs := [] } }
 K := (List (Int)) × ((Int) × (Int))
 V := Int
 R := (Unit) ⊕ (Unit)
 join := fun k v => ((k.1, (k.2.1, (k.2.2, (v, ())))), ())
 sk := fun t => (t.1.1, (t.1.2.1, t.1.2.2.1))
 sv := fun t => t.1.2.2.2.1
 step := S_sp_l1Rising_0
 leaf := fun _ r => .s (Unit) (Unit) r (fun _ => .l (.exit 0 (mkSt ({ slots := [], sh := .nil, obs := [] }) ((), ())))) (fun _ => .l (.ret (mkSt ({ slots := [6], sh := (.cons (.dat .bool) .nil), obs := [] }) ((false, ()), ()))))
noncomputable def T_sp_l1Rising (a1_ : List (Int)) (a2_ : Int) (a3_ : Int) : Tr (Bool) :=
 .c ((Unit) ⊕ (Unit)) (L_sp_l1Rising_0 (a1_, (a2_, a3_)) (0 : Int)) fun r7_ =>
 .s (Unit) (Unit) r7_
  (fun _ => .l true)
  (fun _ => .l false)
noncomputable def F_sp_l1Rising (a1_ : List (Int)) (a2_ : Int) (a3_ : Int) : Option (Bool) := (T_sp_l1Rising a1_ a2_ a3_).ev
noncomputable def A_sp_l1Rising : Sh := (.cons (.dat (.slice (.int .i64))) (.cons (.dat (.int .i64)) (.cons (.dat (.int .i64)) .nil)))
noncomputable def I_sp_l1Rising : List (Nat × OSh) := []
noncomputable def K_sp_l1Rising : RetK := { acts := [], res := [.tmp 6], sh := (.cons (.dat .bool) .nil), obs := [], pins := [] }
noncomputable def D_sp_l1Rising : FD where
 A := A_sp_l1Rising
 ins := I_sp_l1Rising
 lend := []
 R := Bool
 F := fun x => F_sp_l1Rising x.1.1 x.1.2.1 x.1.2.2.1
 emb := fun r => ([.dat .bool r], [])
noncomputable def E_sp_l1Rising : Env := envOf [(134, D_sp_l1In)]
noncomputable def Z_sp_l1Rising : Nat → Nat → List Nat := fun _ _ => []
noncomputable def O_sp_l1Rising : List (Nat × LD) := [(0, DL_sp_l1Rising_0)]
noncomputable def C_sp_l1Rising : Code := (f148.body).getD .skip
noncomputable def T_sp_l10May (a1_ : List (Int)) (_a2_ : List (Int)) (_a3_ : List (Int)) (a4_ : List (List (List (Int)))) (a5_ : Int) (a6_ : List (Int)) : Tr (Bool) :=
 .c (Bool) (F_sp_l1Rising a6_ (0 : Int) (IntKind.wrap .i64 (((List.length a1_ : Nat) : Int) - (1 : Int)))) fun r1_ =>
 .t r1_
  (.t (decide ((0 : Int) < ((List.length a6_ : Nat) : Int)))
    (.l true)
    (.g (inR a5_ (List.length a4_)) <|
     .l (((List.length (List.getD a4_ (Int.toNat a5_) ([] : List (List (Int)))) : Nat) : Int) == (0 : Int))))
  (.l false)
noncomputable def F_sp_l10May (a1_ : List (Int)) (a2_ : List (Int)) (a3_ : List (Int)) (a4_ : List (List (List (Int)))) (a5_ : Int) (a6_ : List (Int)) : Option (Bool) := (T_sp_l10May a1_ a2_ a3_ a4_ a5_ a6_).ev
noncomputable def A_sp_l10May : Sh := (.cons (.agg (.cons (.dat (.slice (.int .i64))) (.cons (.dat (.slice (.int .i64))) (.cons (.dat (.slice (.int .i64))) (.cons (.dat (.slice (.slice (.slice (.int .i64))))) .nil))))) (.cons (.dat (.int .i64)) (.cons (.dat (.slice (.int .i64))) .nil)))
noncomputable def I_sp_l10May : List (Nat × OSh) := []
noncomputable def K_sp_l10May : RetK := { acts := [], res := [.tmp 6], sh := (.cons (.dat .bool) .nil), obs := [], pins := [] }
noncomputable def D_sp_l10May : FD where
 A := A_sp_l10May
 ins := I_sp_l10May
 lend := []
 R := Bool
 F := fun x => F_sp_l10May x.1.1.1 x.1.1.2.1 x.1.1.2.2.1 x.1.1.2.2.2.1 x.1.2.1 x.1.2.2.1
 emb := fun r => ([.dat .bool r], [])
noncomputable def E_sp_l10May : Env := envOf [(148, D_sp_l1Rising)]
noncomputable def Z_sp_l10May : Nat → Nat → List Nat := fun _ _ => []
noncomputable def O_sp_l10May : List (Nat × LD) := []
noncomputable def C_sp_l10May : Code := (f80.body).getD .skip
noncomputable def S_sp_l10Plan_0 (k : (List (List (Int))) × ((List (Int)) × ((List (Int)) × ((List (Int)) × (List (List (List (Int)))))))) (v : Int) : Tr ((Int) ⊕ ((Unit) ⊕ (Unit))) :=
 .t (decide (v < ((List.length k.1 : Nat) : Int)))
  (.t (decide (v < ((List.length k.2.2.2.2 : Nat) : Int)))
    (.g (inR v (List.length k.1)) <|
     .c (Bool) (F_sp_l10May k.2.1 k.2.2.1 k.2.2.2.1 k.2.2.2.2 v (List.getD k.1 (Int.toNat v) ([] : List (Int)))) fun r7_ =>
     .t (!r7_)
      (.l (.inr (.inr ())))
      (.l (.inl (IntKind.wrap .i64 (v + (1 : Int))))))
    (.l (.inr (.inl ()))))
  (.l (.inr (.inl ())))
noncomputable def L_sp_l10Plan_0 (k : (List (List (Int))) × ((List (Int)) × ((List (Int)) × ((List (Int)) × (List (List (List (Int)))))))) (v : Int) : Option ((Unit) ⊕ (Unit)) := iter (fun v => (S_sp_l10Plan_0 k v).ev) v
noncomputable def DL_sp_l10Plan_0 : LD where
 head := { acts := [], S := { slots := [1, 2, 5], sh := (.cons (.dat (.slice (.slice (.int .i64)))) (.cons (.box 2 0) (.cons (.dat (.int .i64)) .nil))), obs := [(2, .cells (.cons (.dat (.slice (.int .i64))) (.cons (.dat (.slice (.int .i64))) (.cons (.dat (.slice (.int .i64))) (.cons (.dat (.slice (.slice (.slice (.int .i64))))) .nil)))))] } }
 exits := [(0, { acts := [], S := { slots := [1, 2], sh := (.cons (.dat (.slice (.slice (.int .i64)))) (.cons (.box 2 0) .nil)), obs := [(2, .cells (.cons (.dat (.slice (.int .i64))) (.cons (.dat (.slice (.int .i64))) (.cons (.dat (.slice (.int .i64))) (.cons (.dat (.slice (.slice (.slice (.int .i64))))) .nil)))))] } })]
 rets := { acts := [], S := { slots := [4], sh := (.cons (.dat .bool) .nil), obs := [] } }
 K := (List (List (Int))) × ((List (Int)) × ((List (Int)) × ((List (Int)) × (List (List (List (Int)))))))
 V := Int
 R := (Unit) ⊕ (Unit)
 join := fun k v => ((k.1, ((), (v, ()))), ((k.2.1, (k.2.2.1, (k.2.2.2.1, (k.2.2.2.2, ())))), ()))
 sk := fun t => (t.1.1, (t.2.1.1, (t.2.1.2.1, (t.2.1.2.2.1, t.2.1.2.2.2.1))))
 sv := fun t => t.1.2.2.1
 step := S_sp_l10Plan_0
 leaf := fun k r => .s (Unit) (Unit) r (fun _ => .l (.exit 0 (mkSt ({ slots := [1, 2], sh := (.cons (.dat (.slice (.slice (.int .i64)))) (.cons (.box 2 0) .nil)), obs := [(2, .cells (.cons (.dat (.slice (.int .i64))) (.cons (.dat (.slice (.int .i64))) (.cons (.dat (.slice (.int .i64))) (.cons (.dat (.slice (.slice (.slice (.int .i64))))) .nil)))))] }) ((k.1, ((), ())), ((k.2.1, (k.2.2.1, (k.2.2.2.1, (k.2.2.2.2, ())))), ()))))) (fun _ => .l (.ret (mkSt ({ slots := [4], sh := (.cons (.dat .bool) .nil), obs := [] }) ((false, ()), ()))))
noncomputable def T_sp_l10Plan (a1_ : List (Int)) (a2_ : List (Int)) (a3_ : List (Int)) (a4_ : List (List (List (Int)))) (a5_ : List (List (Int))) : Tr (Bool) :=
 .c ((Unit) ⊕ (Unit)) (L_sp_l10Plan_0 (a5_, (a1_, (a2_, (a3_, a4_)))) (0 : Int)) fun r14_ =>
 .s (Unit) (Unit) r14_
  (fun _ => .l (((List.length a5_ : Nat) : Int) == ((List.length a4_ : Nat) : Int)))
  (fun _ => .l false)
noncomputable def F_sp_l10Plan (a1_ : List (Int)) (a2_ : List (Int)) (a3_ : List (Int)) (a4_ : List (List (List (Int)))) (a5_ : List (List (Int))) : Option (Bool) := (T_sp_l10Plan a1_ a2_ a3_ a4_ a5_).ev
noncomputable def A_sp_l10Plan : Sh := (.cons (.agg (.cons (.dat (.slice (.int .i64))) (.cons (.dat (.slice (.int .i64))) (.cons (.dat (.slice (.int .i64))) (.cons (.dat (.slice (.slice (.slice (.int .i64))))) .nil))))) (.cons (.dat (.slice (.slice (.int .i64)))) .nil))
noncomputable def I_sp_l10Plan : List (Nat × OSh) := []
noncomputable def K_sp_l10Plan : RetK := { acts := [], res := [.tmp 4], sh := (.cons (.dat .bool) .nil), obs := [], pins := [] }
noncomputable def D_sp_l10Plan : FD where
 A := A_sp_l10Plan
 ins := I_sp_l10Plan
 lend := []
 R := Bool
 F := fun x => F_sp_l10Plan x.1.1.1 x.1.1.2.1 x.1.1.2.2.1 x.1.1.2.2.2.1 x.1.2.1
 emb := fun r => ([.dat .bool r], [])
noncomputable def E_sp_l10Plan : Env := envOf [(80, D_sp_l10May)]
noncomputable def Z_sp_l10Plan : Nat → Nat → List Nat := fun _ _ => []
noncomputable def O_sp_l10Plan : List (Nat × LD) := [(0, DL_sp_l10Plan_0)]
noncomputable def C_sp_l10Plan : Code := (f75.body).getD .skip
noncomputable def S_sp_l2Site_0 (k : (Int) × ((List (Int)) × ((List (Int)) × (List (List (Int)))))) (v : (Int) × (Int)) : Tr (((Int) × (Int)) ⊕ (Int)) :=
 .t (decide (v.2 < ((List.length k.2.1 : Nat) : Int)))
  (.g (inR k.1 (List.length k.2.2.2)) <|
   .g (inR v.2 (List.length k.2.1)) <|
   .g (inR (List.getD k.2.1 (Int.toNat v.2) (0 : Int)) (List.length (List.getD k.2.2.2 (Int.toNat k.1) ([] : List (Int))))) <|
   .g (inR k.1 (List.length k.2.2.2)) <|
   .g (inR v.1 (List.length (List.getD k.2.2.2 (Int.toNat k.1) ([] : List (Int))))) <|
   .t (decide ((List.getD (List.getD k.2.2.2 (Int.toNat k.1) ([] : List (Int))) (Int.toNat (List.getD k.2.1 (Int.toNat v.2) (0 : Int))) (0 : Int)) < (List.getD (List.getD k.2.2.2 (Int.toNat k.1) ([] : List (Int))) (Int.toNat v.1) (0 : Int))))
    (.g (inR v.2 (List.length k.2.1)) <|
     .l (.inl ((List.getD k.2.1 (Int.toNat v.2) (0 : Int)), (IntKind.wrap .i64 (v.2 + (1 : Int))))))
    (.l (.inl (v.1, (IntKind.wrap .i64 (v.2 + (1 : Int)))))))
  (.l (.inr v.1))
noncomputable def L_sp_l2Site_0 (k : (Int) × ((List (Int)) × ((List (Int)) × (List (List (Int)))))) (v : (Int) × (Int)) : Option (Int) := iter (fun v => (S_sp_l2Site_0 k v).ev) v
noncomputable def DL_sp_l2Site_0 : LD where
 head := { acts := [], S := { slots := [1, 2, 3, 7, 8], sh := (.cons (.dat (.int .i64)) (.cons (.dat (.slice (.int .i64))) (.cons (.box 3 0) (.cons (.dat (.int .i64)) (.cons (.dat (.int .i64)) .nil))))), obs := [(3, .cells (.cons (.dat (.slice (.int .i64))) (.cons (.dat (.slice (.slice (.int .i64)))) .nil)))] } }
 exits := [(0, { acts := [], S := { slots := [7], sh := (.cons (.dat (.int .i64)) .nil), obs := [] } })]
 rets := { acts := [], S := { slots := [], sh := .nil, obs := [] } }
 K := (Int) × ((List (Int)) × ((List (Int)) × (List (List (Int)))))
 V := (Int) × (Int)
 R := Int
 join := fun k v => ((k.1, (k.2.1, ((), (v.1, (v.2, ()))))), ((k.2.2.1, (k.2.2.2, ())), ()))
 sk := fun t => (t.1.1, (t.1.2.1, (t.2.1.1, t.2.1.2.1)))
 sv := fun t => (t.1.2.2.2.1, t.1.2.2.2.2.1)
 step := S_sp_l2Site_0
 leaf := fun _ r => .l (.exit 0 (mkSt ({ slots := [7], sh := (.cons (.dat (.int .i64)) .nil), obs := [] }) ((r, ()), ())))
noncomputable def T_sp_l2Site (a1_ : List (Int)) (a2_ : List (List (Int))) (a3_ : Int) (a4_ : List (Int)) : Tr (Int) :=
 .g (inR (0 : Int) (List.length a4_)) <|
 .c (Int) (L_sp_l2Site_0 (a3_, (a4_, (a1_, a2_))) ((List.getD a4_ (Int.toNat (0 : Int)) (0 : Int)), (1 : Int))) fun r8_ =>
 .l r8_
noncomputable def F_sp_l2Site (a1_ : List (Int)) (a2_ : List (List (Int))) (a3_ : Int) (a4_ : List (Int)) : Option (Int) := (T_sp_l2Site a1_ a2_ a3_ a4_).ev
noncomputable def A_sp_l2Site : Sh := (.cons (.agg (.cons (.dat (.slice (.int .i64))) (.cons (.dat (.slice (.slice (.int .i64)))) .nil))) (.cons (.dat (.int .i64)) (.cons (.dat (.slice (.int .i64))) .nil)))
noncomputable def I_sp_l2Site : List (Nat × OSh) := []
noncomputable def K_sp_l2Site : RetK := { acts := [], res := [.tmp 6], sh := (.cons (.dat (.int .i64)) .nil), obs := [], pins := [] }
noncomputable def D_sp_l2Site : FD where
 A := A_sp_l2Site
 ins := I_sp_l2Site
 lend := []
 R := Int
 F := fun x => F_sp_l2Site x.1.1.1 x.1.1.2.1 x.1.2.1 x.1.2.2.1
 emb := fun r => ([.dat (.int .i64) r], [])
noncomputable def E_sp_l2Site : Env := envOf []
noncomputable def Z_sp_l2Site : Nat → Nat → List Nat := fun _ _ => []
noncomputable def O_sp_l2Site : List (Nat × LD) := [(0, DL_sp_l2Site_0)]
noncomputable def C_sp_l2Site : Code := (f129.body).getD .skip
noncomputable def T_sp_l2Nearest (a1_ : List (Int)) (a2_ : List (List (Int))) (a3_ : Int) (a4_ : List (Int)) : Tr (Int) :=
 .g (inR a3_ (List.length a2_)) <|
 .c (Int) (F_sp_l2Site a1_ a2_ a3_ a4_) fun r1_ =>
 .g (inR r1_ (List.length (List.getD a2_ (Int.toNat a3_) ([] : List (Int))))) <|
 .l (List.getD (List.getD a2_ (Int.toNat a3_) ([] : List (Int))) (Int.toNat r1_) (0 : Int))
noncomputable def F_sp_l2Nearest (a1_ : List (Int)) (a2_ : List (List (Int))) (a3_ : Int) (a4_ : List (Int)) : Option (Int) := (T_sp_l2Nearest a1_ a2_ a3_ a4_).ev
noncomputable def A_sp_l2Nearest : Sh := (.cons (.agg (.cons (.dat (.slice (.int .i64))) (.cons (.dat (.slice (.slice (.int .i64)))) .nil))) (.cons (.dat (.int .i64)) (.cons (.dat (.slice (.int .i64))) .nil)))
noncomputable def I_sp_l2Nearest : List (Nat × OSh) := []
noncomputable def K_sp_l2Nearest : RetK := { acts := [], res := [.tmp 6], sh := (.cons (.dat (.int .i64)) .nil), obs := [], pins := [] }
noncomputable def D_sp_l2Nearest : FD where
 A := A_sp_l2Nearest
 ins := I_sp_l2Nearest
 lend := []
 R := Int
 F := fun x => F_sp_l2Nearest x.1.1.1 x.1.1.2.1 x.1.2.1 x.1.2.2.1
 emb := fun r => ([.dat (.int .i64) r], [])
noncomputable def E_sp_l2Nearest : Env := envOf [(129, D_sp_l2Site)]
noncomputable def Z_sp_l2Nearest : Nat → Nat → List Nat := fun _ _ => []
noncomputable def O_sp_l2Nearest : List (Nat × LD) := []
noncomputable def C_sp_l2Nearest : Code := (f153.body).getD .skip
noncomputable def S_sp_l2Serve_0 (k : (List (Int)) × ((List (Int)) × (List (List (Int))))) (v : (Int) × (Int)) : Tr (((Int) × (Int)) ⊕ (Int)) :=
 .t (decide (v.2 < ((List.length k.2.2 : Nat) : Int)))
  (.c (Int) (F_sp_l2Nearest k.2.1 k.2.2 v.2 k.1) fun r6_ =>
   .l (.inl ((IntKind.wrap .i64 (v.1 + r6_)), (IntKind.wrap .i64 (v.2 + (1 : Int))))))
  (.l (.inr v.1))
noncomputable def L_sp_l2Serve_0 (k : (List (Int)) × ((List (Int)) × (List (List (Int))))) (v : (Int) × (Int)) : Option (Int) := iter (fun v => (S_sp_l2Serve_0 k v).ev) v
noncomputable def DL_sp_l2Serve_0 : LD where
 head := { acts := [], S := { slots := [1, 2, 5, 6], sh := (.cons (.dat (.slice (.int .i64))) (.cons (.box 2 0) (.cons (.dat (.int .i64)) (.cons (.dat (.int .i64)) .nil)))), obs := [(2, .cells (.cons (.dat (.slice (.int .i64))) (.cons (.dat (.slice (.slice (.int .i64)))) .nil)))] } }
 exits := [(0, { acts := [], S := { slots := [5], sh := (.cons (.dat (.int .i64)) .nil), obs := [] } })]
 rets := { acts := [], S := { slots := [], sh := .nil, obs := [] } }
 K := (List (Int)) × ((List (Int)) × (List (List (Int))))
 V := (Int) × (Int)
 R := Int
 join := fun k v => ((k.1, ((), (v.1, (v.2, ())))), ((k.2.1, (k.2.2, ())), ()))
 sk := fun t => (t.1.1, (t.2.1.1, t.2.1.2.1))
 sv := fun t => (t.1.2.2.1, t.1.2.2.2.1)
 step := S_sp_l2Serve_0
 leaf := fun _ r => .l (.exit 0 (mkSt ({ slots := [5], sh := (.cons (.dat (.int .i64)) .nil), obs := [] }) ((r, ()), ())))
noncomputable def T_sp_l2Serve (a1_ : List (Int)) (a2_ : List (List (Int))) (a3_ : List (Int)) : Tr (Int) :=
 .c (Int) (L_sp_l2Serve_0 (a3_, (a1_, a2_)) ((0 : Int), (0 : Int))) fun r8_ =>
 .l r8_
noncomputable def F_sp_l2Serve (a1_ : List (Int)) (a2_ : List (List (Int))) (a3_ : List (Int)) : Option (Int) := (T_sp_l2Serve a1_ a2_ a3_).ev
noncomputable def A_sp_l2Serve : Sh := (.cons (.agg (.cons (.dat (.slice (.int .i64))) (.cons (.dat (.slice (.slice (.int .i64)))) .nil))) (.cons (.dat (.slice (.int .i64))) .nil))
noncomputable def I_sp_l2Serve : List (Nat × OSh) := []
noncomputable def K_sp_l2Serve : RetK := { acts := [], res := [.tmp 4], sh := (.cons (.dat (.int .i64)) .nil), obs := [], pins := [] }
noncomputable def D_sp_l2Serve : FD where
 A := A_sp_l2Serve
 ins := I_sp_l2Serve
 lend := []
 R := Int
 F := fun x => F_sp_l2Serve x.1.1.1 x.1.1.2.1 x.1.2.1
 emb := fun r => ([.dat (.int .i64) r], [])
noncomputable def E_sp_l2Serve : Env := envOf [(153, D_sp_l2Nearest)]
noncomputable def Z_sp_l2Serve : Nat → Nat → List Nat := fun _ _ => []
noncomputable def O_sp_l2Serve : List (Nat × LD) := [(0, DL_sp_l2Serve_0)]
noncomputable def C_sp_l2Serve : Code := (f103.body).getD .skip
noncomputable def S_sp_l1Has_0 (k : (List (Int)) × (Int)) (v : Int) : Tr ((Int) ⊕ ((Unit) ⊕ (Unit))) :=
 .t (decide (v < ((List.length k.1 : Nat) : Int)))
  (.g (inR v (List.length k.1)) <|
   .t ((List.getD k.1 (Int.toNat v) (0 : Int)) == k.2)
    (.l (.inr (.inr ())))
    (.l (.inl (IntKind.wrap .i64 (v + (1 : Int))))))
  (.l (.inr (.inl ())))
noncomputable def L_sp_l1Has_0 (k : (List (Int)) × (Int)) (v : Int) : Option ((Unit) ⊕ (Unit)) := iter (fun v => (S_sp_l1Has_0 k v).ev) v
noncomputable def DL_sp_l1Has_0 : LD where
 head := { acts := [], S := { slots := [0, 1, 5], sh := (.cons (.dat (.slice (.int .i64))) (.cons (.dat (.int .i64)) (.cons (.dat (.int .i64)) .nil))), obs := [] } }
 exits := [(0, { acts := [], S := { slots := [], sh := .nil, obs := [] } })]
 rets := { acts := [], S := { slots := [4], sh := (.cons (.dat .bool) .nil), obs := [] } }
 K := (List (Int)) × (Int)
 V := Int
 R := (Unit) ⊕ (Unit)
 join := fun k v => ((k.1, (k.2, (v, ()))), ())
 sk := fun t => (t.1.1, t.1.2.1)
 sv := fun t => t.1.2.2.1
 step := S_sp_l1Has_0
 leaf := fun _ r => .s (Unit) (Unit) r (fun _ => .l (.exit 0 (mkSt ({ slots := [], sh := .nil, obs := [] }) ((), ())))) (fun _ => .l (.ret (mkSt ({ slots := [4], sh := (.cons (.dat .bool) .nil), obs := [] }) ((true, ()), ()))))
noncomputable def T_sp_l1Has (a1_ : List (Int)) (a2_ : Int) : Tr (Bool) :=
 .c ((Unit) ⊕ (Unit)) (L_sp_l1Has_0 (a1_, a2_) (0 : Int)) fun r5_ =>
 .s (Unit) (Unit) r5_
  (fun _ => .l false)
  (fun _ => .l true)
noncomputable def F_sp_l1Has (a1_ : List (Int)) (a2_ : Int) : Option (Bool) := (T_sp_l1Has a1_ a2_).ev
noncomputable def A_sp_l1Has : Sh := (.cons (.dat (.slice (.int .i64))) (.cons (.dat (.int .i64)) .nil))
noncomputable def I_sp_l1Has : List (Nat × OSh) := []
noncomputable def K_sp_l1Has : RetK := { acts := [], res := [.tmp 4], sh := (.cons (.dat .bool) .nil), obs := [], pins := [] }
noncomputable def D_sp_l1Has : FD where
 A := A_sp_l1Has
 ins := I_sp_l1Has
 lend := []
 R := Bool
 F := fun x => F_sp_l1Has x.1.1 x.1.2.1
 emb := fun r => ([.dat .bool r], [])
noncomputable def E_sp_l1Has : Env := envOf []
noncomputable def Z_sp_l1Has : Nat → Nat → List Nat := fun _ _ => []
noncomputable def O_sp_l1Has : List (Nat × LD) := [(0, DL_sp_l1Has_0)]
noncomputable def C_sp_l1Has : Code := (f149.body).getD .skip
noncomputable def S_sp_l10Move_0 (k : (List (Int)) × ((List (Int)) × ((List (Int)) × ((List (Int)) × ((List (Int)) × (List (List (List (Int))))))))) (v : (Int) × (Int)) : Tr (((Int) × (Int)) ⊕ (Int)) :=
 .t (decide (v.2 < ((List.length k.2.2.1 : Nat) : Int)))
  (.c (Bool) (F_sp_l1Has k.2.1 v.2) fun r10_ =>
   .c (Bool) (F_sp_l1Has k.1 v.2) fun r11_ =>
   .t r10_
    (.g (inR v.2 (List.length k.2.2.2.2.1)) <|
     .t r10_
      (.t (!r11_)
        (.g (inR v.2 (List.length k.2.2.1)) <|
         .t r11_
          (.t (!r10_)
            (.g (inR v.2 (List.length k.2.2.2.1)) <|
             .l (.inl ((IntKind.wrap .i64 ((IntKind.wrap .i64 ((IntKind.wrap .i64 (v.1 + (List.getD k.2.2.2.2.1 (Int.toNat v.2) (0 : Int)))) + (List.getD k.2.2.1 (Int.toNat v.2) (0 : Int)))) + (List.getD k.2.2.2.1 (Int.toNat v.2) (0 : Int)))), (IntKind.wrap .i64 (v.2 + (1 : Int))))))
            (.l (.inl ((IntKind.wrap .i64 ((IntKind.wrap .i64 (v.1 + (List.getD k.2.2.2.2.1 (Int.toNat v.2) (0 : Int)))) + (List.getD k.2.2.1 (Int.toNat v.2) (0 : Int)))), (IntKind.wrap .i64 (v.2 + (1 : Int)))))))
          (.l (.inl ((IntKind.wrap .i64 ((IntKind.wrap .i64 (v.1 + (List.getD k.2.2.2.2.1 (Int.toNat v.2) (0 : Int)))) + (List.getD k.2.2.1 (Int.toNat v.2) (0 : Int)))), (IntKind.wrap .i64 (v.2 + (1 : Int)))))))
        (.t r11_
          (.t (!r10_)
            (.g (inR v.2 (List.length k.2.2.2.1)) <|
             .l (.inl ((IntKind.wrap .i64 ((IntKind.wrap .i64 (v.1 + (List.getD k.2.2.2.2.1 (Int.toNat v.2) (0 : Int)))) + (List.getD k.2.2.2.1 (Int.toNat v.2) (0 : Int)))), (IntKind.wrap .i64 (v.2 + (1 : Int))))))
            (.l (.inl ((IntKind.wrap .i64 (v.1 + (List.getD k.2.2.2.2.1 (Int.toNat v.2) (0 : Int)))), (IntKind.wrap .i64 (v.2 + (1 : Int)))))))
          (.l (.inl ((IntKind.wrap .i64 (v.1 + (List.getD k.2.2.2.2.1 (Int.toNat v.2) (0 : Int)))), (IntKind.wrap .i64 (v.2 + (1 : Int))))))))
      (.t r11_
        (.t (!r10_)
          (.g (inR v.2 (List.length k.2.2.2.1)) <|
           .l (.inl ((IntKind.wrap .i64 ((IntKind.wrap .i64 (v.1 + (List.getD k.2.2.2.2.1 (Int.toNat v.2) (0 : Int)))) + (List.getD k.2.2.2.1 (Int.toNat v.2) (0 : Int)))), (IntKind.wrap .i64 (v.2 + (1 : Int))))))
          (.l (.inl ((IntKind.wrap .i64 (v.1 + (List.getD k.2.2.2.2.1 (Int.toNat v.2) (0 : Int)))), (IntKind.wrap .i64 (v.2 + (1 : Int)))))))
        (.l (.inl ((IntKind.wrap .i64 (v.1 + (List.getD k.2.2.2.2.1 (Int.toNat v.2) (0 : Int)))), (IntKind.wrap .i64 (v.2 + (1 : Int))))))))
    (.t r10_
      (.t (!r11_)
        (.g (inR v.2 (List.length k.2.2.1)) <|
         .t r11_
          (.t (!r10_)
            (.g (inR v.2 (List.length k.2.2.2.1)) <|
             .l (.inl ((IntKind.wrap .i64 ((IntKind.wrap .i64 (v.1 + (List.getD k.2.2.1 (Int.toNat v.2) (0 : Int)))) + (List.getD k.2.2.2.1 (Int.toNat v.2) (0 : Int)))), (IntKind.wrap .i64 (v.2 + (1 : Int))))))
            (.l (.inl ((IntKind.wrap .i64 (v.1 + (List.getD k.2.2.1 (Int.toNat v.2) (0 : Int)))), (IntKind.wrap .i64 (v.2 + (1 : Int)))))))
          (.l (.inl ((IntKind.wrap .i64 (v.1 + (List.getD k.2.2.1 (Int.toNat v.2) (0 : Int)))), (IntKind.wrap .i64 (v.2 + (1 : Int)))))))
        (.t r11_
          (.t (!r10_)
            (.g (inR v.2 (List.length k.2.2.2.1)) <|
             .l (.inl ((IntKind.wrap .i64 (v.1 + (List.getD k.2.2.2.1 (Int.toNat v.2) (0 : Int)))), (IntKind.wrap .i64 (v.2 + (1 : Int))))))
            (.l (.inl (v.1, (IntKind.wrap .i64 (v.2 + (1 : Int)))))))
          (.l (.inl (v.1, (IntKind.wrap .i64 (v.2 + (1 : Int))))))))
      (.t r11_
        (.t (!r10_)
          (.g (inR v.2 (List.length k.2.2.2.1)) <|
           .l (.inl ((IntKind.wrap .i64 (v.1 + (List.getD k.2.2.2.1 (Int.toNat v.2) (0 : Int)))), (IntKind.wrap .i64 (v.2 + (1 : Int))))))
          (.l (.inl (v.1, (IntKind.wrap .i64 (v.2 + (1 : Int)))))))
        (.l (.inl (v.1, (IntKind.wrap .i64 (v.2 + (1 : Int)))))))))
  (.l (.inr v.1))
noncomputable def L_sp_l10Move_0 (k : (List (Int)) × ((List (Int)) × ((List (Int)) × ((List (Int)) × ((List (Int)) × (List (List (List (Int))))))))) (v : (Int) × (Int)) : Option (Int) := iter (fun v => (S_sp_l10Move_0 k v).ev) v
noncomputable def DL_sp_l10Move_0 : LD where
 head := { acts := [], S := { slots := [2, 3, 4, 9, 10], sh := (.cons (.dat (.slice (.int .i64))) (.cons (.dat (.slice (.int .i64))) (.cons (.box 4 0) (.cons (.dat (.int .i64)) (.cons (.dat (.int .i64)) .nil))))), obs := [(4, .cells (.cons (.dat (.slice (.int .i64))) (.cons (.dat (.slice (.int .i64))) (.cons (.dat (.slice (.int .i64))) (.cons (.dat (.slice (.slice (.slice (.int .i64))))) .nil)))))] } }
 exits := [(0, { acts := [], S := { slots := [9], sh := (.cons (.dat (.int .i64)) .nil), obs := [] } })]
 rets := { acts := [], S := { slots := [], sh := .nil, obs := [] } }
 K := (List (Int)) × ((List (Int)) × ((List (Int)) × ((List (Int)) × ((List (Int)) × (List (List (List (Int))))))))
 V := (Int) × (Int)
 R := Int
 join := fun k v => ((k.1, (k.2.1, ((), (v.1, (v.2, ()))))), ((k.2.2.1, (k.2.2.2.1, (k.2.2.2.2.1, (k.2.2.2.2.2, ())))), ()))
 sk := fun t => (t.1.1, (t.1.2.1, (t.2.1.1, (t.2.1.2.1, (t.2.1.2.2.1, t.2.1.2.2.2.1)))))
 sv := fun t => (t.1.2.2.2.1, t.1.2.2.2.2.1)
 step := S_sp_l10Move_0
 leaf := fun _ r => .l (.exit 0 (mkSt ({ slots := [9], sh := (.cons (.dat (.int .i64)) .nil), obs := [] }) ((r, ()), ())))
noncomputable def T_sp_l10Move (a1_ : List (Int)) (a2_ : List (Int)) (a3_ : List (Int)) (a4_ : List (List (List (Int)))) (a5_ : Int) (a6_ : List (Int)) (a7_ : List (Int)) : Tr (Int) :=
 .g (inR a5_ (List.length a4_)) <|
 .c (Int) (F_sp_l2Serve a1_ (List.getD a4_ (Int.toNat a5_) ([] : List (List (Int)))) a7_) fun r1_ =>
 .c (Int) (L_sp_l10Move_0 (a6_, (a7_, (a1_, (a2_, (a3_, a4_))))) (r1_, (0 : Int))) fun r13_ =>
 .l r13_
noncomputable def F_sp_l10Move (a1_ : List (Int)) (a2_ : List (Int)) (a3_ : List (Int)) (a4_ : List (List (List (Int)))) (a5_ : Int) (a6_ : List (Int)) (a7_ : List (Int)) : Option (Int) := (T_sp_l10Move a1_ a2_ a3_ a4_ a5_ a6_ a7_).ev
noncomputable def A_sp_l10Move : Sh := (.cons (.agg (.cons (.dat (.slice (.int .i64))) (.cons (.dat (.slice (.int .i64))) (.cons (.dat (.slice (.int .i64))) (.cons (.dat (.slice (.slice (.slice (.int .i64))))) .nil))))) (.cons (.dat (.int .i64)) (.cons (.dat (.slice (.int .i64))) (.cons (.dat (.slice (.int .i64))) .nil))))
noncomputable def I_sp_l10Move : List (Nat × OSh) := []
noncomputable def K_sp_l10Move : RetK := { acts := [], res := [.tmp 8], sh := (.cons (.dat (.int .i64)) .nil), obs := [], pins := [] }
noncomputable def D_sp_l10Move : FD where
 A := A_sp_l10Move
 ins := I_sp_l10Move
 lend := []
 R := Int
 F := fun x => F_sp_l10Move x.1.1.1 x.1.1.2.1 x.1.1.2.2.1 x.1.1.2.2.2.1 x.1.2.1 x.1.2.2.1 x.1.2.2.2.1
 emb := fun r => ([.dat (.int .i64) r], [])
noncomputable def E_sp_l10Move : Env := envOf [(103, D_sp_l2Serve), (149, D_sp_l1Has)]
noncomputable def Z_sp_l10Move : Nat → Nat → List Nat := fun _ _ => []
noncomputable def O_sp_l10Move : List (Nat × LD) := [(0, DL_sp_l10Move_0)]
noncomputable def C_sp_l10Move : Code := (f81.body).getD .skip
noncomputable def S_sp_l10Moves_0 (k : (List (List (Int))) × ((List (Int)) × ((List (Int)) × ((List (Int)) × (List (List (List (Int)))))))) (v : (List (Int)) × ((Int) × (List (Int)))) : Tr (((List (Int)) × ((Int) × (List (Int)))) ⊕ (List (Int))) :=
 .t (decide (v.2.1 < ((List.length k.1 : Nat) : Int)))
  (.g (inR v.2.1 (List.length k.1)) <|
   .c (Int) (F_sp_l10Move k.2.1 k.2.2.1 k.2.2.2.1 k.2.2.2.2 v.2.1 v.1 (List.getD k.1 (Int.toNat v.2.1) ([] : List (Int)))) fun r18_ =>
   .g (decide ((List.length v.2.2 + List.length ([r18_] : List (Int))) * 8 ≤ 140737488355328)) <|
   .g (inR v.2.1 (List.length k.1)) <|
   .l (.inl ((List.getD k.1 (Int.toNat v.2.1) ([] : List (Int))), ((IntKind.wrap .i64 (v.2.1 + (1 : Int))), (v.2.2 ++ ([r18_] : List (Int)))))))
  (.l (.inr v.2.2))
noncomputable def L_sp_l10Moves_0 (k : (List (List (Int))) × ((List (Int)) × ((List (Int)) × ((List (Int)) × (List (List (List (Int)))))))) (v : (List (Int)) × ((Int) × (List (Int)))) : Option (List (Int)) := iter (fun v => (S_sp_l10Moves_0 k v).ev) v
noncomputable def DL_sp_l10Moves_0 : LD where
 head := { acts := [.fz 9], S := { slots := [1, 2, 5, 6, 7], sh := (.cons (.dat (.slice (.slice (.int .i64)))) (.cons (.box 2 0) (.cons (.arr 8) (.cons (.dat (.slice (.int .i64))) (.cons (.dat (.int .i64)) .nil))))), obs := [(2, .cells (.cons (.dat (.slice (.int .i64))) (.cons (.dat (.slice (.int .i64))) (.cons (.dat (.slice (.int .i64))) (.cons (.dat (.slice (.slice (.slice (.int .i64))))) .nil))))), (8, .arr 3 (.int .i64))] } }
 exits := [(0, { acts := [], S := { slots := [5], sh := (.cons (.arr 8) .nil), obs := [(8, .arr 3 (.int .i64))] } })]
 rets := { acts := [], S := { slots := [], sh := .nil, obs := [] } }
 K := (List (List (Int))) × ((List (Int)) × ((List (Int)) × ((List (Int)) × (List (List (List (Int)))))))
 V := (List (Int)) × ((Int) × (List (Int)))
 R := List (Int)
 join := fun k v => ((k.1, ((), ((), (v.1, (v.2.1, ()))))), ((k.2.1, (k.2.2.1, (k.2.2.2.1, (k.2.2.2.2, ())))), (v.2.2, ())))
 sk := fun t => (t.1.1, (t.2.1.1, (t.2.1.2.1, (t.2.1.2.2.1, t.2.1.2.2.2.1))))
 sv := fun t => (t.1.2.2.2.1, (t.1.2.2.2.2.1, t.2.2.1))
 step := S_sp_l10Moves_0
 leaf := fun _ r => .l (.exit 0 (mkSt ({ slots := [5], sh := (.cons (.arr 8) .nil), obs := [(8, .arr 3 (.int .i64))] }) (((), ()), (r, ()))))
noncomputable def T_sp_l10Moves (a1_ : List (Int)) (a2_ : List (Int)) (a3_ : List (Int)) (a4_ : List (List (List (Int)))) (a5_ : List (List (Int))) : Tr (List (Int)) :=
 .c (List (Int)) (L_sp_l10Moves_0 (a5_, (a1_, (a2_, (a3_, a4_)))) (([] : List (Int)), ((0 : Int), ([] : List (Int))))) fun r20_ =>
 .l r20_
noncomputable def F_sp_l10Moves (a1_ : List (Int)) (a2_ : List (Int)) (a3_ : List (Int)) (a4_ : List (List (List (Int)))) (a5_ : List (List (Int))) : Option (List (Int)) := (T_sp_l10Moves a1_ a2_ a3_ a4_ a5_).ev
noncomputable def A_sp_l10Moves : Sh := (.cons (.agg (.cons (.dat (.slice (.int .i64))) (.cons (.dat (.slice (.int .i64))) (.cons (.dat (.slice (.int .i64))) (.cons (.dat (.slice (.slice (.slice (.int .i64))))) .nil))))) (.cons (.dat (.slice (.slice (.int .i64)))) .nil))
noncomputable def I_sp_l10Moves : List (Nat × OSh) := []
noncomputable def K_sp_l10Moves : RetK := { acts := [.ren 8 0], res := [.tmp 4], sh := (.cons (.arr 0) .nil), obs := [(0, .arr 3 (.int .i64))], pins := [] }
noncomputable def D_sp_l10Moves : FD where
 A := A_sp_l10Moves
 ins := I_sp_l10Moves
 lend := []
 R := List (Int)
 F := fun x => F_sp_l10Moves x.1.1.1 x.1.1.2.1 x.1.1.2.2.1 x.1.1.2.2.2.1 x.1.2.1
 emb := fun r => ([.arr 0], [(0, .arr 3 (.int .i64) r)])
noncomputable def E_sp_l10Moves : Env := envOf [(81, D_sp_l10Move)]
noncomputable def Z_sp_l10Moves : Nat → Nat → List Nat := fun _ _ => []
noncomputable def O_sp_l10Moves : List (Nat × LD) := [(0, DL_sp_l10Moves_0)]
noncomputable def C_sp_l10Moves : Code := (f77.body).getD .skip
noncomputable def S_sp_l10Sum_0 (k : List (Int)) (v : (Int) × (Int)) : Tr (((Int) × (Int)) ⊕ (Int)) :=
 .t (decide (v.2 < ((List.length k : Nat) : Int)))
  (.g (inR v.2 (List.length k)) <|
   .l (.inl ((IntKind.wrap .i64 (v.1 + (List.getD k (Int.toNat v.2) (0 : Int)))), (IntKind.wrap .i64 (v.2 + (1 : Int))))))
  (.l (.inr v.1))
noncomputable def L_sp_l10Sum_0 (k : List (Int)) (v : (Int) × (Int)) : Option (Int) := iter (fun v => (S_sp_l10Sum_0 k v).ev) v
noncomputable def DL_sp_l10Sum_0 : LD where
 head := { acts := [], S := { slots := [0, 3, 4], sh := (.cons (.dat (.slice (.int .i64))) (.cons (.dat (.int .i64)) (.cons (.dat (.int .i64)) .nil))), obs := [] } }
 exits := [(0, { acts := [], S := { slots := [3], sh := (.cons (.dat (.int .i64)) .nil), obs := [] } })]
 rets := { acts := [], S := { slots := [], sh := .nil, obs := [] } }
 K := List (Int)
 V := (Int) × (Int)
 R := Int
 join := fun k v => ((k, (v.1, (v.2, ()))), ())
 sk := fun t => t.1.1
 sv := fun t => (t.1.2.1, t.1.2.2.1)
 step := S_sp_l10Sum_0
 leaf := fun _ r => .l (.exit 0 (mkSt ({ slots := [3], sh := (.cons (.dat (.int .i64)) .nil), obs := [] }) ((r, ()), ())))
noncomputable def T_sp_l10Sum (a1_ : List (Int)) : Tr (Int) :=
 .c (Int) (L_sp_l10Sum_0 a1_ ((0 : Int), (0 : Int))) fun r5_ =>
 .l r5_
noncomputable def F_sp_l10Sum (a1_ : List (Int)) : Option (Int) := (T_sp_l10Sum a1_).ev
noncomputable def A_sp_l10Sum : Sh := (.cons (.dat (.slice (.int .i64))) .nil)
noncomputable def I_sp_l10Sum : List (Nat × OSh) := []
noncomputable def K_sp_l10Sum : RetK := { acts := [], res := [.tmp 2], sh := (.cons (.dat (.int .i64)) .nil), obs := [], pins := [] }
noncomputable def D_sp_l10Sum : FD where
 A := A_sp_l10Sum
 ins := I_sp_l10Sum
 lend := []
 R := Int
 F := fun x => F_sp_l10Sum x.1.1
 emb := fun r => ([.dat (.int .i64) r], [])
noncomputable def E_sp_l10Sum : Env := envOf []
noncomputable def Z_sp_l10Sum : Nat → Nat → List Nat := fun _ _ => []
noncomputable def O_sp_l10Sum : List (Nat × LD) := [(0, DL_sp_l10Sum_0)]
noncomputable def C_sp_l10Sum : Code := (f76.body).getD .skip
noncomputable def S_sp_StaticPlan_0 (k : (List (Int)) × ((List (Int)) × ((List (Int)) × ((List (List (List (Int)))) × (List (List (Int))))))) (v : (List (List (Int))) × ((Bool) × (Int))) : Tr (((List (List (Int))) × ((Bool) × (Int))) ⊕ (List (List (Int)))) :=
 .t (decide (v.2.2 < ((List.length k.2.2.2.2 : Nat) : Int)))
  (.g (inR v.2.2 (List.length k.2.2.2.2)) <|
   .g (decide ((Int.toNat v.2.2) < List.length k.2.2.2.2)) <|
   .c (List (List (Int))) (F_sp_l10Same k.1 k.2.1 k.2.2.1 k.2.2.2.1 (List.getD k.2.2.2.2 (Int.toNat v.2.2) ([] : List (Int)))) fun r25_ =>
   .c (Bool) (F_sp_l10Plan k.1 k.2.1 k.2.2.1 k.2.2.2.1 r25_) fun r26_ =>
   .t (!r26_)
    (.l (.inl (v.1, (v.2.1, (IntKind.wrap .i64 (v.2.2 + (1 : Int)))))))
    (.t (!v.2.1)
      (.l (.inl (r25_, (true, (IntKind.wrap .i64 (v.2.2 + (1 : Int)))))))
      (.c (List (Int)) (F_sp_l10Moves k.1 k.2.1 k.2.2.1 k.2.2.2.1 r25_) fun r27_ =>
       .c (Int) (F_sp_l10Sum r27_) fun r28_ =>
       .c (List (Int)) (F_sp_l10Moves k.1 k.2.1 k.2.2.1 k.2.2.2.1 v.1) fun r29_ =>
       .c (Int) (F_sp_l10Sum r29_) fun r30_ =>
       .t (decide (r28_ < r30_))
        (.l (.inl (r25_, (true, (IntKind.wrap .i64 (v.2.2 + (1 : Int)))))))
        (.l (.inl (v.1, (v.2.1, (IntKind.wrap .i64 (v.2.2 + (1 : Int))))))))))
  (.l (.inr v.1))
noncomputable def L_sp_StaticPlan_0 (k : (List (Int)) × ((List (Int)) × ((List (Int)) × ((List (List (List (Int)))) × (List (List (Int))))))) (v : (List (List (Int))) × ((Bool) × (Int))) : Option (List (List (Int))) := iter (fun v => (S_sp_StaticPlan_0 k v).ev) v
noncomputable def DL_sp_StaticPlan_0 : LD where
 head := { acts := [.fz 13, .fz 1728], S := { slots := [1, 4, 5, 6, 7], sh := (.cons (.box 1 0) (.cons (.dat (.slice (.slice (.int .i64)))) (.cons (.dat .bool) (.cons (.arr 960) (.cons (.dat (.int .i64)) .nil))))), obs := [(1, .cells (.cons (.dat (.slice (.int .i64))) (.cons (.dat (.slice (.int .i64))) (.cons (.dat (.slice (.int .i64))) (.cons (.dat (.slice (.slice (.slice (.int .i64))))) .nil))))), (960, .arr 22 (.slice (.int .i64)))] } }
 exits := [(0, { acts := [], S := { slots := [4], sh := (.cons (.dat (.slice (.slice (.int .i64)))) .nil), obs := [] } })]
 rets := { acts := [], S := { slots := [], sh := .nil, obs := [] } }
 K := (List (Int)) × ((List (Int)) × ((List (Int)) × ((List (List (List (Int)))) × (List (List (Int))))))
 V := (List (List (Int))) × ((Bool) × (Int))
 R := List (List (Int))
 join := fun k v => (((), (v.1, (v.2.1, ((), (v.2.2, ()))))), ((k.1, (k.2.1, (k.2.2.1, (k.2.2.2.1, ())))), (k.2.2.2.2, ())))
 sk := fun t => (t.2.1.1, (t.2.1.2.1, (t.2.1.2.2.1, (t.2.1.2.2.2.1, t.2.2.1))))
 sv := fun t => (t.1.2.1, (t.1.2.2.1, t.1.2.2.2.2.1))
 step := S_sp_StaticPlan_0
 leaf := fun _ r => .l (.exit 0 (mkSt ({ slots := [4], sh := (.cons (.dat (.slice (.slice (.int .i64)))) .nil), obs := [] }) ((r, ()), ())))
noncomputable def T_sp_StaticPlan (a1_ : List (Int)) (a2_ : List (Int)) (a3_ : List (Int)) (a4_ : List (List (List (Int)))) : Tr ((List (List (Int))) × (Bool)) :=
 .c (Bool) (F_sp_l10Good a1_ a2_ a3_ a4_) fun r1_ =>
 .t (!r1_)
  (.l (([] : List (List (Int))), false))
  (.c (List (List (Int))) (F_sp_l10Sets a1_ a2_ a3_ a4_) fun r2_ =>
   .c (List (List (Int))) (L_sp_StaticPlan_0 (a1_, (a2_, (a3_, (a4_, r2_)))) (([] : List (List (Int))), (false, (0 : Int)))) fun r32_ =>
   .l (r32_, true))
noncomputable def F_sp_StaticPlan (a1_ : List (Int)) (a2_ : List (Int)) (a3_ : List (Int)) (a4_ : List (List (List (Int)))) : Option ((List (List (Int))) × (Bool)) := (T_sp_StaticPlan a1_ a2_ a3_ a4_).ev
noncomputable def A_sp_StaticPlan : Sh := (.cons (.agg (.cons (.dat (.slice (.int .i64))) (.cons (.dat (.slice (.int .i64))) (.cons (.dat (.slice (.int .i64))) (.cons (.dat (.slice (.slice (.slice (.int .i64))))) .nil))))) .nil)
noncomputable def I_sp_StaticPlan : List (Nat × OSh) := []
noncomputable def K_sp_StaticPlan : RetK := { acts := [.fz 12], res := [.tmp 2, .tmp 3], sh := (.cons (.dat (.slice (.slice (.int .i64)))) (.cons (.dat .bool) .nil)), obs := [], pins := [] }
noncomputable def D_sp_StaticPlan : FD where
 A := A_sp_StaticPlan
 ins := I_sp_StaticPlan
 lend := []
 R := (List (List (Int))) × (Bool)
 F := fun x => F_sp_StaticPlan x.1.1.1 x.1.1.2.1 x.1.1.2.2.1 x.1.1.2.2.2.1
 emb := fun r => ([.dat (.slice (.slice (.int .i64))) r.1, .dat .bool r.2], [])
noncomputable def E_sp_StaticPlan : Env := envOf [(66, D_sp_l10Good), (79, D_sp_l10Sets), (92, D_sp_l10Same), (75, D_sp_l10Plan), (77, D_sp_l10Moves), (76, D_sp_l10Sum)]
noncomputable def Z_sp_StaticPlan : Nat → Nat → List Nat := fun r i => match look [(2, [(0, [1000000])]), (3, [(0, [1000000])])] r with
 | some l => (look l i).getD []
 | none => []
noncomputable def O_sp_StaticPlan : List (Nat × LD) := [(0, DL_sp_StaticPlan_0)]
noncomputable def C_sp_StaticPlan : Code := (f34.body).getD .skip
noncomputable def T_im_between (a1_ : Int) (a2_ : Int) (a3_ : Int) : Tr (Bool) :=
 .t (decide (a2_ ≤ a1_))
  (.l (decide (a1_ ≤ a3_)))
  (.l false)
noncomputable def F_im_between (a1_ : Int) (a2_ : Int) (a3_ : Int) : Option (Bool) := (T_im_between a1_ a2_ a3_).ev
noncomputable def A_im_between : Sh := (.cons (.dat (.int .i64)) (.cons (.dat (.int .i64)) (.cons (.dat (.int .i64)) .nil)))
noncomputable def I_im_between : List (Nat × OSh) := []
noncomputable def K_im_between : RetK := { acts := [], res := [.tmp 6], sh := (.cons (.dat .bool) .nil), obs := [], pins := [] }
noncomputable def D_im_between : FD where
 A := A_im_between
 ins := I_im_between
 lend := []
 R := Bool
 F := fun x => F_im_between x.1.1 x.1.2.1 x.1.2.2.1
 emb := fun r => ([.dat .bool r], [])
noncomputable def E_im_between : Env := envOf []
noncomputable def Z_im_between : Nat → Nat → List Nat := fun _ _ => []
noncomputable def O_im_between : List (Nat × LD) := []
noncomputable def C_im_between : Code := (f136.body).getD .skip
noncomputable def T_slices_Grow_Sint_int (a1_ : Int) : Tr (List (Int)) :=
 .t (decide (a1_ < (0 : Int)))
  (.f)
  (.t (decide ((0 : Int) < (IntKind.wrap .i64 (a1_ - (IntKind.wrap .i64 ((0 : Int) - (0 : Int)))))))
    (.g (decide ((0 : Int) ≤ (0 : Int)) && decide ((0 : Int) ≤ ((0 : Nat) : Int))) <|
     .g (decide ((0 : Int) < (IntKind.wrap .i64 (a1_ - (IntKind.wrap .i64 ((0 : Int) - (0 : Int)))))) && decide ((IntKind.wrap .i64 (a1_ - (IntKind.wrap .i64 ((0 : Int) - (0 : Int))))) * ((8 : Nat) : Int) ≤ 281474976710656)) <|
     .g (decide ((0 : Int) ≤ (0 : Int)) && decide ((0 : Int) ≤ ((List.length (List.replicate (Int.toNat (IntKind.wrap .i64 (a1_ - (IntKind.wrap .i64 ((0 : Int) - (0 : Int)))))) (0 : Int)) : Nat) : Int))) <|
     .l (List.take (Int.toNat (0 : Int)) (List.replicate (Int.toNat (IntKind.wrap .i64 (a1_ - (IntKind.wrap .i64 ((0 : Int) - (0 : Int)))))) (0 : Int))))
    (.l ([] : List (Int))))
noncomputable def F_slices_Grow_Sint_int (a1_ : Int) : Option (List (Int)) := (T_slices_Grow_Sint_int a1_).ev
noncomputable def A_slices_Grow_Sint_int : Sh := (.cons .nilsl (.cons (.dat (.int .i64)) .nil))
noncomputable def I_slices_Grow_Sint_int : List (Nat × OSh) := []
noncomputable def K_slices_Grow_Sint_int : RetK := { acts := [.own 4 0 3 (.int .i64), .ren 22 0], res := [.tmp 4], sh := (.cons (.arr 0) .nil), obs := [(0, .arr 3 (.int .i64))], pins := [] }
noncomputable def D_slices_Grow_Sint_int : FD where
 A := A_slices_Grow_Sint_int
 ins := I_slices_Grow_Sint_int
 lend := []
 R := List (Int)
 F := fun x => F_slices_Grow_Sint_int x.1.2.1
 emb := fun r => ([.arr 0], [(0, .arr 3 (.int .i64) r)])
noncomputable def E_slices_Grow_Sint_int : Env := envOf []
noncomputable def Z_slices_Grow_Sint_int : Nat → Nat → List Nat := fun _ _ => []
noncomputable def O_slices_Grow_Sint_int : List (Nat × LD) := []
noncomputable def C_slices_Grow_Sint_int : Code := (f179.body).getD .skip
noncomputable def S_slices_Concat_Sint_int_0 (k : (List (List (Int))) × ((List (List (Int))) × (Int))) (v : (Int) × (Int)) : Tr (((Int) × (Int)) ⊕ (Int)) :=
 .t (decide (v.2 < k.2.2))
  (.g (inR v.2 (List.length k.2.1)) <|
   .t (decide ((IntKind.wrap .i64 (v.1 + ((List.length (List.getD k.2.1 (Int.toNat v.2) ([] : List (Int))) : Nat) : Int))) < (0 : Int)))
    (.f)
    (.l (.inl ((IntKind.wrap .i64 (v.1 + ((List.length (List.getD k.2.1 (Int.toNat v.2) ([] : List (Int))) : Nat) : Int))), (IntKind.wrap .i64 (v.2 + (1 : Int)))))))
  (.l (.inr v.1))
noncomputable def L_slices_Concat_Sint_int_0 (k : (List (List (Int))) × ((List (List (Int))) × (Int))) (v : (Int) × (Int)) : Option (Int) := iter (fun v => (S_slices_Concat_Sint_int_0 k v).ev) v
noncomputable def DL_slices_Concat_Sint_int_0 : LD where
 head := { acts := [], S := { slots := [0, 3, 9, 10, 11], sh := (.cons (.dat (.slice (.slice (.int .i64)))) (.cons (.dat (.int .i64)) (.cons (.dat (.slice (.slice (.int .i64)))) (.cons (.dat (.int .i64)) (.cons (.dat (.int .i64)) .nil))))), obs := [] } }
 exits := [(0, { acts := [], S := { slots := [0, 3], sh := (.cons (.dat (.slice (.slice (.int .i64)))) (.cons (.dat (.int .i64)) .nil)), obs := [] } })]
 rets := { acts := [], S := { slots := [], sh := .nil, obs := [] } }
 K := (List (List (Int))) × ((List (List (Int))) × (Int))
 V := (Int) × (Int)
 R := Int
 join := fun k v => ((k.1, (v.1, (k.2.1, (k.2.2, (v.2, ()))))), ())
 sk := fun t => (t.1.1, (t.1.2.2.1, t.1.2.2.2.1))
 sv := fun t => (t.1.2.1, t.1.2.2.2.2.1)
 step := S_slices_Concat_Sint_int_0
 leaf := fun k r => .l (.exit 0 (mkSt ({ slots := [0, 3], sh := (.cons (.dat (.slice (.slice (.int .i64)))) (.cons (.dat (.int .i64)) .nil)), obs := [] }) ((k.1, (r, ())), ())))
noncomputable def S_slices_Concat_Sint_int_2 (k : (List (List (Int))) × (Int)) (v : (Int) × (List (Int))) : Tr (((Int) × (List (Int))) ⊕ (List (Int))) :=
 .t (decide (v.1 < k.2))
  (.g (inR v.1 (List.length k.1)) <|
   .g (decide ((List.length v.2 + List.length (List.getD k.1 (Int.toNat v.1) ([] : List (Int)))) * 8 ≤ 140737488355328)) <|
   .l (.inl ((IntKind.wrap .i64 (v.1 + (1 : Int))), (v.2 ++ (List.getD k.1 (Int.toNat v.1) ([] : List (Int)))))))
  (.l (.inr v.2))
noncomputable def L_slices_Concat_Sint_int_2 (k : (List (List (Int))) × (Int)) (v : (Int) × (List (Int))) : Option (List (Int)) := iter (fun v => (S_slices_Concat_Sint_int_2 k v).ev) v
noncomputable def DL_slices_Concat_Sint_int_2 : LD where
 head := { acts := [], S := { slots := [6, 25, 26, 27], sh := (.cons (.arr 1536) (.cons (.dat (.slice (.slice (.int .i64)))) (.cons (.dat (.int .i64)) (.cons (.dat (.int .i64)) .nil)))), obs := [(1536, .arr 3 (.int .i64))] } }
 exits := [(2, { acts := [], S := { slots := [6], sh := (.cons (.arr 1536) .nil), obs := [(1536, .arr 3 (.int .i64))] } })]
 rets := { acts := [], S := { slots := [], sh := .nil, obs := [] } }
 K := (List (List (Int))) × (Int)
 V := (Int) × (List (Int))
 R := List (Int)
 join := fun k v => (((), (k.1, (k.2, (v.1, ())))), (v.2, ()))
 sk := fun t => (t.1.2.1, t.1.2.2.1)
 sv := fun t => (t.1.2.2.2.1, t.2.1)
 step := S_slices_Concat_Sint_int_2
 leaf := fun _ r => .l (.exit 2 (mkSt ({ slots := [6], sh := (.cons (.arr 1536) .nil), obs := [(1536, .arr 3 (.int .i64))] }) (((), ()), (r, ()))))
noncomputable def T_slices_Concat_Sint_int (a1_ : List (List (Int))) : Tr (List (Int)) :=
 .c (Int) (L_slices_Concat_Sint_int_0 (a1_, (a1_, ((List.length a1_ : Nat) : Int))) ((0 : Int), (0 : Int))) fun r8_ =>
 .c (List (Int)) (F_slices_Grow_Sint_int r8_) fun r9_ =>
 .c (List (Int)) (L_slices_Concat_Sint_int_2 (a1_, ((List.length a1_ : Nat) : Int)) ((0 : Int), r9_)) fun r15_ =>
 .l r15_
noncomputable def F_slices_Concat_Sint_int (a1_ : List (List (Int))) : Option (List (Int)) := (T_slices_Concat_Sint_int a1_).ev
noncomputable def A_slices_Concat_Sint_int : Sh := (.cons (.dat (.slice (.slice (.int .i64)))) .nil)
noncomputable def I_slices_Concat_Sint_int : List (Nat × OSh) := []
noncomputable def K_slices_Concat_Sint_int : RetK := { acts := [.ren 1536 0], res := [.tmp 2], sh := (.cons (.arr 0) .nil), obs := [(0, .arr 3 (.int .i64))], pins := [] }
noncomputable def D_slices_Concat_Sint_int : FD where
 A := A_slices_Concat_Sint_int
 ins := I_slices_Concat_Sint_int
 lend := []
 R := List (Int)
 F := fun x => F_slices_Concat_Sint_int x.1.1
 emb := fun r => ([.arr 0], [(0, .arr 3 (.int .i64) r)])
noncomputable def E_slices_Concat_Sint_int : Env := envOf [(179, D_slices_Grow_Sint_int)]
noncomputable def Z_slices_Concat_Sint_int : Nat → Nat → List Nat := fun _ _ => []
noncomputable def O_slices_Concat_Sint_int : List (Nat × LD) := [(0, DL_slices_Concat_Sint_int_0), (2, DL_slices_Concat_Sint_int_2)]
noncomputable def C_slices_Concat_Sint_int : Code := (f138.body).getD .skip
noncomputable def S_slices_IndexFunc_Sint_int_0 (k : (List (Int)) × (((HL [(.int .i64)] → Option (Bool))) × (Int))) (v : Int) : Tr ((Int) ⊕ ((Unit) ⊕ (Int))) :=
 .t (decide (v < k.2.2))
  (.g (inR v (List.length k.1)) <|
   .c (Bool) (k.2.1 ((List.getD k.1 (Int.toNat v) (0 : Int)), ())) fun r5_ =>
   .t r5_
    (.l (.inr (.inr v)))
    (.l (.inl (IntKind.wrap .i64 (v + (1 : Int))))))
  (.l (.inr (.inl ())))
noncomputable def L_slices_IndexFunc_Sint_int_0 (k : (List (Int)) × (((HL [(.int .i64)] → Option (Bool))) × (Int))) (v : Int) : Option ((Unit) ⊕ (Int)) := iter (fun v => (S_slices_IndexFunc_Sint_int_0 k v).ev) v
noncomputable def DL_slices_IndexFunc_Sint_int_0 : LD where
 head := { acts := [], S := { slots := [0, 1, 7, 8], sh := (.cons (.dat (.slice (.int .i64))) (.cons (.clo [(.int .i64)] .bool) (.cons (.dat (.int .i64)) (.cons (.dat (.int .i64)) .nil)))), obs := [] } }
 exits := [(0, { acts := [], S := { slots := [], sh := .nil, obs := [] } })]
 rets := { acts := [], S := { slots := [4], sh := (.cons (.dat (.int .i64)) .nil), obs := [] } }
 K := (List (Int)) × (((HL [(.int .i64)] → Option (Bool))) × (Int))
 V := Int
 R := (Unit) ⊕ (Int)
 join := fun k v => ((k.1, (k.2.1, (k.2.2, (v, ())))), ())
 sk := fun t => (t.1.1, (t.1.2.1, t.1.2.2.1))
 sv := fun t => t.1.2.2.2.1
 step := S_slices_IndexFunc_Sint_int_0
 leaf := fun _ r => .s (Unit) (Int) r (fun _ => .l (.exit 0 (mkSt ({ slots := [], sh := .nil, obs := [] }) ((), ())))) (fun b => .l (.ret (mkSt ({ slots := [4], sh := (.cons (.dat (.int .i64)) .nil), obs := [] }) ((b, ()), ()))))
noncomputable def T_slices_IndexFunc_Sint_int (a1_ : List (Int)) (a2_ : (HL [(.int .i64)] → Option (Bool))) : Tr (Int) :=
 .c ((Unit) ⊕ (Int)) (L_slices_IndexFunc_Sint_int_0 (a1_, (a2_, ((List.length a1_ : Nat) : Int))) (0 : Int)) fun r7_ =>
 .s (Unit) (Int) r7_
  (fun _ => .l (-1 : Int))
  (fun r9_ => .l r9_)
noncomputable def F_slices_IndexFunc_Sint_int (a1_ : List (Int)) (a2_ : (HL [(.int .i64)] → Option (Bool))) : Option (Int) := (T_slices_IndexFunc_Sint_int a1_ a2_).ev
noncomputable def A_slices_IndexFunc_Sint_int : Sh := (.cons (.dat (.slice (.int .i64))) (.cons (.clo [(.int .i64)] .bool) .nil))
noncomputable def I_slices_IndexFunc_Sint_int : List (Nat × OSh) := []
noncomputable def K_slices_IndexFunc_Sint_int : RetK := { acts := [], res := [.tmp 4], sh := (.cons (.dat (.int .i64)) .nil), obs := [], pins := [] }
noncomputable def D_slices_IndexFunc_Sint_int : FD where
 A := A_slices_IndexFunc_Sint_int
 ins := I_slices_IndexFunc_Sint_int
 lend := []
 R := Int
 F := fun x => F_slices_IndexFunc_Sint_int x.1.1 x.1.2.1
 emb := fun r => ([.dat (.int .i64) r], [])
noncomputable def E_slices_IndexFunc_Sint_int : Env := envOf []
noncomputable def Z_slices_IndexFunc_Sint_int : Nat → Nat → List Nat := fun _ _ => []
noncomputable def O_slices_IndexFunc_Sint_int : List (Nat × LD) := [(0, DL_slices_IndexFunc_Sint_int_0)]
noncomputable def C_slices_IndexFunc_Sint_int : Code := (f193.body).getD .skip
noncomputable def T_slices_ContainsFunc_Sint_int (a1_ : List (Int)) (a2_ : (HL [(.int .i64)] → Option (Bool))) : Tr (Bool) :=
 .c (Int) (F_slices_IndexFunc_Sint_int a1_ a2_) fun r1_ =>
 .l (decide ((0 : Int) ≤ r1_))
noncomputable def F_slices_ContainsFunc_Sint_int (a1_ : List (Int)) (a2_ : (HL [(.int .i64)] → Option (Bool))) : Option (Bool) := (T_slices_ContainsFunc_Sint_int a1_ a2_).ev
noncomputable def A_slices_ContainsFunc_Sint_int : Sh := (.cons (.dat (.slice (.int .i64))) (.cons (.clo [(.int .i64)] .bool) .nil))
noncomputable def I_slices_ContainsFunc_Sint_int : List (Nat × OSh) := []
noncomputable def K_slices_ContainsFunc_Sint_int : RetK := { acts := [], res := [.tmp 4], sh := (.cons (.dat .bool) .nil), obs := [], pins := [] }
noncomputable def D_slices_ContainsFunc_Sint_int : FD where
 A := A_slices_ContainsFunc_Sint_int
 ins := I_slices_ContainsFunc_Sint_int
 lend := []
 R := Bool
 F := fun x => F_slices_ContainsFunc_Sint_int x.1.1 x.1.2.1
 emb := fun r => ([.dat .bool r], [])
noncomputable def E_slices_ContainsFunc_Sint_int : Env := envOf [(193, D_slices_IndexFunc_Sint_int)]
noncomputable def Z_slices_ContainsFunc_Sint_int : Nat → Nat → List Nat := fun _ _ => []
noncomputable def O_slices_ContainsFunc_Sint_int : List (Nat × LD) := []
noncomputable def C_slices_ContainsFunc_Sint_int : Code := (f177.body).getD .skip
noncomputable def T_im_areBetween_1 (a1_ : Int) (a2_ : Int) (a3_ : Int) : Tr (Bool) :=
 .c (Bool) (F_im_between a1_ a2_ a3_) fun r1_ =>
 .l (!r1_)
noncomputable def F_im_areBetween_1 (a1_ : Int) (a2_ : Int) (a3_ : Int) : Option (Bool) := (T_im_areBetween_1 a1_ a2_ a3_).ev
noncomputable def A_im_areBetween_1 : Sh := (.cons (.dat (.int .i64)) (.cons (.ptr (.cons (.dat (.int .i64)) .nil)) (.cons (.ptr (.cons (.dat (.int .i64)) .nil)) .nil)))
noncomputable def I_im_areBetween_1 : List (Nat × OSh) := []
noncomputable def K_im_areBetween_1 : RetK := { acts := [], res := [.tmp 4], sh := (.cons (.dat .bool) .nil), obs := [], pins := [] }
noncomputable def D_im_areBetween_1 : FD where
 A := A_im_areBetween_1
 ins := I_im_areBetween_1
 lend := []
 R := Bool
 F := fun x => F_im_areBetween_1 x.1.1 x.1.2.1.1 x.1.2.2.1.1
 emb := fun r => ([.dat .bool r], [])
noncomputable def E_im_areBetween_1 : Env := envOf [(136, D_im_between)]
noncomputable def Z_im_areBetween_1 : Nat → Nat → List Nat := fun _ _ => []
noncomputable def O_im_areBetween_1 : List (Nat × LD) := []
noncomputable def C_im_areBetween_1 : Code := (f178.body).getD .skip
noncomputable def T_im_areBetween (a1_ : List (Int)) (a2_ : Int) (a3_ : Int) : Tr (Bool) :=
 .c (Bool) (F_slices_ContainsFunc_Sint_int a1_ (fun h1_ => Option.bind (F_im_areBetween_1 h1_.1 a2_ a3_) fun y2_ => some y2_)) fun r3_ =>
 .l (!r3_)
noncomputable def F_im_areBetween (a1_ : List (Int)) (a2_ : Int) (a3_ : Int) : Option (Bool) := (T_im_areBetween a1_ a2_ a3_).ev
noncomputable def A_im_areBetween : Sh := (.cons (.dat (.slice (.int .i64))) (.cons (.dat (.int .i64)) (.cons (.dat (.int .i64)) .nil)))
noncomputable def I_im_areBetween : List (Nat × OSh) := []
noncomputable def K_im_areBetween : RetK := { acts := [], res := [.tmp 6], sh := (.cons (.dat .bool) .nil), obs := [], pins := [] }
noncomputable def D_im_areBetween : FD where
 A := A_im_areBetween
 ins := I_im_areBetween
 lend := []
 R := Bool
 F := fun x => F_im_areBetween x.1.1 x.1.2.1 x.1.2.2.1
 emb := fun r => ([.dat .bool r], [])
noncomputable def E_im_areBetween : Env := envOf [(177, D_slices_ContainsFunc_Sint_int), (177, D_slices_ContainsFunc_Sint_int), (178, D_im_areBetween_1)]
noncomputable def Z_im_areBetween : Nat → Nat → List Nat := fun _ _ => []
noncomputable def O_im_areBetween : List (Nat × LD) := []
noncomputable def C_im_areBetween : Code := (f137.body).getD .skip
noncomputable def S_slices_IndexFunc_SSSint_SSint_0 (k : (List (List (List (Int)))) × (((HL [(.slice (.slice (.int .i64)))] → Option (Bool))) × (Int))) (v : Int) : Tr ((Int) ⊕ ((Unit) ⊕ (Int))) :=
 .t (decide (v < k.2.2))
  (.g (inR v (List.length k.1)) <|
   .c (Bool) (k.2.1 ((List.getD k.1 (Int.toNat v) ([] : List (List (Int)))), ())) fun r5_ =>
   .t r5_
    (.l (.inr (.inr v)))
    (.l (.inl (IntKind.wrap .i64 (v + (1 : Int))))))
  (.l (.inr (.inl ())))
noncomputable def L_slices_IndexFunc_SSSint_SSint_0 (k : (List (List (List (Int)))) × (((HL [(.slice (.slice (.int .i64)))] → Option (Bool))) × (Int))) (v : Int) : Option ((Unit) ⊕ (Int)) := iter (fun v => (S_slices_IndexFunc_SSSint_SSint_0 k v).ev) v
noncomputable def DL_slices_IndexFunc_SSSint_SSint_0 : LD where
 head := { acts := [], S := { slots := [0, 1, 7, 8], sh := (.cons (.dat (.slice (.slice (.slice (.int .i64))))) (.cons (.clo [(.slice (.slice (.int .i64)))] .bool) (.cons (.dat (.int .i64)) (.cons (.dat (.int .i64)) .nil)))), obs := [] } }
 exits := [(0, { acts := [], S := { slots := [], sh := .nil, obs := [] } })]
 rets := { acts := [], S := { slots := [4], sh := (.cons (.dat (.int .i64)) .nil), obs := [] } }
 K := (List (List (List (Int)))) × (((HL [(.slice (.slice (.int .i64)))] → Option (Bool))) × (Int))
 V := Int
 R := (Unit) ⊕ (Int)
 join := fun k v => ((k.1, (k.2.1, (k.2.2, (v, ())))), ())
 sk := fun t => (t.1.1, (t.1.2.1, t.1.2.2.1))
 sv := fun t => t.1.2.2.2.1
 step := S_slices_IndexFunc_SSSint_SSint_0
 leaf := fun _ r => .s (Unit) (Int) r (fun _ => .l (.exit 0 (mkSt ({ slots := [], sh := .nil, obs := [] }) ((), ())))) (fun b => .l (.ret (mkSt ({ slots := [4], sh := (.cons (.dat (.int .i64)) .nil), obs := [] }) ((b, ()), ()))))
noncomputable def T_slices_IndexFunc_SSSint_SSint (a1_ : List (List (List (Int)))) (a2_ : (HL [(.slice (.slice (.int .i64)))] → Option (Bool))) : Tr (Int) :=
 .c ((Unit) ⊕ (Int)) (L_slices_IndexFunc_SSSint_SSint_0 (a1_, (a2_, ((List.length a1_ : Nat) : Int))) (0 : Int)) fun r7_ =>
 .s (Unit) (Int) r7_
  (fun _ => .l (-1 : Int))
  (fun r9_ => .l r9_)
noncomputable def F_slices_IndexFunc_SSSint_SSint (a1_ : List (List (List (Int)))) (a2_ : (HL [(.slice (.slice (.int .i64)))] → Option (Bool))) : Option (Int) := (T_slices_IndexFunc_SSSint_SSint a1_ a2_).ev
noncomputable def A_slices_IndexFunc_SSSint_SSint : Sh := (.cons (.dat (.slice (.slice (.slice (.int .i64))))) (.cons (.clo [(.slice (.slice (.int .i64)))] .bool) .nil))
noncomputable def I_slices_IndexFunc_SSSint_SSint : List (Nat × OSh) := []
noncomputable def K_slices_IndexFunc_SSSint_SSint : RetK := { acts := [], res := [.tmp 4], sh := (.cons (.dat (.int .i64)) .nil), obs := [], pins := [] }
noncomputable def D_slices_IndexFunc_SSSint_SSint : FD where
 A := A_slices_IndexFunc_SSSint_SSint
 ins := I_slices_IndexFunc_SSSint_SSint
 lend := []
 R := Int
 F := fun x => F_slices_IndexFunc_SSSint_SSint x.1.1 x.1.2.1
 emb := fun r => ([.dat (.int .i64) r], [])
noncomputable def E_slices_IndexFunc_SSSint_SSint : Env := envOf []
noncomputable def Z_slices_IndexFunc_SSSint_SSint : Nat → Nat → List Nat := fun _ _ => []
noncomputable def O_slices_IndexFunc_SSSint_SSint : List (Nat × LD) := [(0, DL_slices_IndexFunc_SSSint_SSint_0)]
noncomputable def C_slices_IndexFunc_SSSint_SSint : Code := (f180.body).getD .skip
noncomputable def T_slices_ContainsFunc_SSSint_SSint (a1_ : List (List (List (Int)))) (a2_ : (HL [(.slice (.slice (.int .i64)))] → Option (Bool))) : Tr (Bool) :=
 .c (Int) (F_slices_IndexFunc_SSSint_SSint a1_ a2_) fun r1_ =>
 .l (decide ((0 : Int) ≤ r1_))
noncomputable def F_slices_ContainsFunc_SSSint_SSint (a1_ : List (List (List (Int)))) (a2_ : (HL [(.slice (.slice (.int .i64)))] → Option (Bool))) : Option (Bool) := (T_slices_ContainsFunc_SSSint_SSint a1_ a2_).ev
noncomputable def A_slices_ContainsFunc_SSSint_SSint : Sh := (.cons (.dat (.slice (.slice (.slice (.int .i64))))) (.cons (.clo [(.slice (.slice (.int .i64)))] .bool) .nil))
noncomputable def I_slices_ContainsFunc_SSSint_SSint : List (Nat × OSh) := []
noncomputable def K_slices_ContainsFunc_SSSint_SSint : RetK := { acts := [], res := [.tmp 4], sh := (.cons (.dat .bool) .nil), obs := [], pins := [] }
noncomputable def D_slices_ContainsFunc_SSSint_SSint : FD where
 A := A_slices_ContainsFunc_SSSint_SSint
 ins := I_slices_ContainsFunc_SSSint_SSint
 lend := []
 R := Bool
 F := fun x => F_slices_ContainsFunc_SSSint_SSint x.1.1 x.1.2.1
 emb := fun r => ([.dat .bool r], [])
noncomputable def E_slices_ContainsFunc_SSSint_SSint : Env := envOf [(180, D_slices_IndexFunc_SSSint_SSint)]
noncomputable def Z_slices_ContainsFunc_SSSint_SSint : Nat → Nat → List Nat := fun _ _ => []
noncomputable def O_slices_ContainsFunc_SSSint_SSint : List (Nat × LD) := []
noncomputable def C_slices_ContainsFunc_SSSint_SSint : Code := (f139.body).getD .skip
noncomputable def S_slices_IndexFunc_SSint_Sint_0 (k : (List (List (Int))) × (((HL [(.slice (.int .i64))] → Option (Bool))) × (Int))) (v : Int) : Tr ((Int) ⊕ ((Unit) ⊕ (Int))) :=
 .t (decide (v < k.2.2))
  (.g (inR v (List.length k.1)) <|
   .c (Bool) (k.2.1 ((List.getD k.1 (Int.toNat v) ([] : List (Int))), ())) fun r5_ =>
   .t r5_
    (.l (.inr (.inr v)))
    (.l (.inl (IntKind.wrap .i64 (v + (1 : Int))))))
  (.l (.inr (.inl ())))
noncomputable def L_slices_IndexFunc_SSint_Sint_0 (k : (List (List (Int))) × (((HL [(.slice (.int .i64))] → Option (Bool))) × (Int))) (v : Int) : Option ((Unit) ⊕ (Int)) := iter (fun v => (S_slices_IndexFunc_SSint_Sint_0 k v).ev) v
noncomputable def DL_slices_IndexFunc_SSint_Sint_0 : LD where
 head := { acts := [], S := { slots := [0, 1, 7, 8], sh := (.cons (.dat (.slice (.slice (.int .i64)))) (.cons (.clo [(.slice (.int .i64))] .bool) (.cons (.dat (.int .i64)) (.cons (.dat (.int .i64)) .nil)))), obs := [] } }
 exits := [(0, { acts := [], S := { slots := [], sh := .nil, obs := [] } })]
 rets := { acts := [], S := { slots := [4], sh := (.cons (.dat (.int .i64)) .nil), obs := [] } }
 K := (List (List (Int))) × (((HL [(.slice (.int .i64))] → Option (Bool))) × (Int))
 V := Int
 R := (Unit) ⊕ (Int)
 join := fun k v => ((k.1, (k.2.1, (k.2.2, (v, ())))), ())
 sk := fun t => (t.1.1, (t.1.2.1, t.1.2.2.1))
 sv := fun t => t.1.2.2.2.1
 step := S_slices_IndexFunc_SSint_Sint_0
 leaf := fun _ r => .s (Unit) (Int) r (fun _ => .l (.exit 0 (mkSt ({ slots := [], sh := .nil, obs := [] }) ((), ())))) (fun b => .l (.ret (mkSt ({ slots := [4], sh := (.cons (.dat (.int .i64)) .nil), obs := [] }) ((b, ()), ()))))
noncomputable def T_slices_IndexFunc_SSint_Sint (a1_ : List (List (Int))) (a2_ : (HL [(.slice (.int .i64))] → Option (Bool))) : Tr (Int) :=
 .c ((Unit) ⊕ (Int)) (L_slices_IndexFunc_SSint_Sint_0 (a1_, (a2_, ((List.length a1_ : Nat) : Int))) (0 : Int)) fun r7_ =>
 .s (Unit) (Int) r7_
  (fun _ => .l (-1 : Int))
  (fun r9_ => .l r9_)
noncomputable def F_slices_IndexFunc_SSint_Sint (a1_ : List (List (Int))) (a2_ : (HL [(.slice (.int .i64))] → Option (Bool))) : Option (Int) := (T_slices_IndexFunc_SSint_Sint a1_ a2_).ev
noncomputable def A_slices_IndexFunc_SSint_Sint : Sh := (.cons (.dat (.slice (.slice (.int .i64)))) (.cons (.clo [(.slice (.int .i64))] .bool) .nil))
noncomputable def I_slices_IndexFunc_SSint_Sint : List (Nat × OSh) := []
noncomputable def K_slices_IndexFunc_SSint_Sint : RetK := { acts := [], res := [.tmp 4], sh := (.cons (.dat (.int .i64)) .nil), obs := [], pins := [] }
noncomputable def D_slices_IndexFunc_SSint_Sint : FD where
 A := A_slices_IndexFunc_SSint_Sint
 ins := I_slices_IndexFunc_SSint_Sint
 lend := []
 R := Int
 F := fun x => F_slices_IndexFunc_SSint_Sint x.1.1 x.1.2.1
 emb := fun r => ([.dat (.int .i64) r], [])
noncomputable def E_slices_IndexFunc_SSint_Sint : Env := envOf []
noncomputable def Z_slices_IndexFunc_SSint_Sint : Nat → Nat → List Nat := fun _ _ => []
noncomputable def O_slices_IndexFunc_SSint_Sint : List (Nat × LD) := [(0, DL_slices_IndexFunc_SSint_Sint_0)]
noncomputable def C_slices_IndexFunc_SSint_Sint : Code := (f167.body).getD .skip
noncomputable def T_slices_ContainsFunc_SSint_Sint (a1_ : List (List (Int))) (a2_ : (HL [(.slice (.int .i64))] → Option (Bool))) : Tr (Bool) :=
 .c (Int) (F_slices_IndexFunc_SSint_Sint a1_ a2_) fun r1_ =>
 .l (decide ((0 : Int) ≤ r1_))
noncomputable def F_slices_ContainsFunc_SSint_Sint (a1_ : List (List (Int))) (a2_ : (HL [(.slice (.int .i64))] → Option (Bool))) : Option (Bool) := (T_slices_ContainsFunc_SSint_Sint a1_ a2_).ev
noncomputable def A_slices_ContainsFunc_SSint_Sint : Sh := (.cons (.dat (.slice (.slice (.int .i64)))) (.cons (.clo [(.slice (.int .i64))] .bool) .nil))
noncomputable def I_slices_ContainsFunc_SSint_Sint : List (Nat × OSh) := []
noncomputable def K_slices_ContainsFunc_SSint_Sint : RetK := { acts := [], res := [.tmp 4], sh := (.cons (.dat .bool) .nil), obs := [], pins := [] }
noncomputable def D_slices_ContainsFunc_SSint_Sint : FD where
 A := A_slices_ContainsFunc_SSint_Sint
 ins := I_slices_ContainsFunc_SSint_Sint
 lend := []
 R := Bool
 F := fun x => F_slices_ContainsFunc_SSint_Sint x.1.1 x.1.2.1
 emb := fun r => ([.dat .bool r], [])
noncomputable def E_slices_ContainsFunc_SSint_Sint : Env := envOf [(167, D_slices_IndexFunc_SSint_Sint)]
noncomputable def Z_slices_ContainsFunc_SSint_Sint : Nat → Nat → List Nat := fun _ _ => []
noncomputable def O_slices_ContainsFunc_SSint_Sint : List (Nat × LD) := []
noncomputable def C_slices_ContainsFunc_SSint_Sint : Code := (f141.body).getD .skip
noncomputable def T_im_IsSeason_1_1 (a1_ : List (Int)) (a2_ : Int) : Tr (Bool) :=
 .t (((List.length a1_ : Nat) : Int) != a2_)
  (.l true)
  (.c (Bool) (F_im_areBetween a1_ (0 : Int) (99 : Int)) fun r1_ =>
   .l (!r1_))
noncomputable def F_im_IsSeason_1_1 (a1_ : List (Int)) (a2_ : Int) : Option (Bool) := (T_im_IsSeason_1_1 a1_ a2_).ev
noncomputable def A_im_IsSeason_1_1 : Sh := (.cons (.dat (.slice (.int .i64))) (.cons (.ptr (.cons (.dat (.int .i64)) .nil)) .nil))
noncomputable def I_im_IsSeason_1_1 : List (Nat × OSh) := []
noncomputable def K_im_IsSeason_1_1 : RetK := { acts := [], res := [.tmp 3], sh := (.cons (.dat .bool) .nil), obs := [], pins := [] }
noncomputable def D_im_IsSeason_1_1 : FD where
 A := A_im_IsSeason_1_1
 ins := I_im_IsSeason_1_1
 lend := []
 R := Bool
 F := fun x => F_im_IsSeason_1_1 x.1.1 x.1.2.1.1
 emb := fun r => ([.dat .bool r], [])
noncomputable def E_im_IsSeason_1_1 : Env := envOf [(137, D_im_areBetween)]
noncomputable def Z_im_IsSeason_1_1 : Nat → Nat → List Nat := fun _ _ => []
noncomputable def O_im_IsSeason_1_1 : List (Nat × LD) := []
noncomputable def C_im_IsSeason_1_1 : Code := (f142.body).getD .skip
noncomputable def T_im_IsSeason_1 (a1_ : List (List (Int))) (a2_ : Int) : Tr (Bool) :=
 .t (decide ((5 : Int) < ((List.length a1_ : Nat) : Int)))
  (.l true)
  (.c (Bool) (F_slices_ContainsFunc_SSint_Sint a1_ (fun h1_ => Option.bind (F_im_IsSeason_1_1 h1_.1 a2_) fun y2_ => some y2_)) fun r3_ =>
   .l r3_)
noncomputable def F_im_IsSeason_1 (a1_ : List (List (Int))) (a2_ : Int) : Option (Bool) := (T_im_IsSeason_1 a1_ a2_).ev
noncomputable def A_im_IsSeason_1 : Sh := (.cons (.dat (.slice (.slice (.int .i64)))) (.cons (.ptr (.cons (.dat (.int .i64)) .nil)) .nil))
noncomputable def I_im_IsSeason_1 : List (Nat × OSh) := []
noncomputable def K_im_IsSeason_1 : RetK := { acts := [], res := [.tmp 3], sh := (.cons (.dat .bool) .nil), obs := [], pins := [] }
noncomputable def D_im_IsSeason_1 : FD where
 A := A_im_IsSeason_1
 ins := I_im_IsSeason_1
 lend := []
 R := Bool
 F := fun x => F_im_IsSeason_1 x.1.1 x.1.2.1.1
 emb := fun r => ([.dat .bool r], [])
noncomputable def E_im_IsSeason_1 : Env := envOf [(141, D_slices_ContainsFunc_SSint_Sint), (141, D_slices_ContainsFunc_SSint_Sint), (142, D_im_IsSeason_1_1)]
noncomputable def Z_im_IsSeason_1 : Nat → Nat → List Nat := fun _ _ => []
noncomputable def O_im_IsSeason_1 : List (Nat × LD) := []
noncomputable def C_im_IsSeason_1 : Code := (f140.body).getD .skip
noncomputable def T_im_IsSeason (a1_ : List (Int)) (a2_ : List (Int)) (a3_ : List (Int)) (a4_ : List (List (List (Int)))) : Tr (Bool) :=
 .c (Bool) (F_im_between ((List.length a1_ : Nat) : Int) (1 : Int) (5 : Int)) fun r1_ =>
 .t (!r1_)
  (.l false)
  (.t (((List.length a2_ : Nat) : Int) != ((List.length a1_ : Nat) : Int))
    (.l false)
    (.t (((List.length a3_ : Nat) : Int) != ((List.length a1_ : Nat) : Int))
      (.l false)
      (.c (List (Int)) (F_slices_Concat_Sint_int ([a1_, a2_, a3_] : List (List (Int)))) fun r2_ =>
       .c (Bool) (F_im_areBetween r2_ (0 : Int) (99 : Int)) fun r3_ =>
       .t (!r3_)
        (.l false)
        (.t (decide ((5 : Int) < ((List.length a4_ : Nat) : Int)))
          (.l false)
          (.c (Bool) (F_slices_ContainsFunc_SSSint_SSint a4_ (fun h4_ => Option.bind (F_im_IsSeason_1 h4_.1 ((List.length a1_ : Nat) : Int)) fun y5_ => some y5_)) fun r6_ =>
           .l (!r6_))))))
noncomputable def F_im_IsSeason (a1_ : List (Int)) (a2_ : List (Int)) (a3_ : List (Int)) (a4_ : List (List (List (Int)))) : Option (Bool) := (T_im_IsSeason a1_ a2_ a3_ a4_).ev
noncomputable def A_im_IsSeason : Sh := (.cons (.agg (.cons (.dat (.slice (.int .i64))) (.cons (.dat (.slice (.int .i64))) (.cons (.dat (.slice (.int .i64))) (.cons (.dat (.slice (.slice (.slice (.int .i64))))) .nil))))) .nil)
noncomputable def I_im_IsSeason : List (Nat × OSh) := []
noncomputable def K_im_IsSeason : RetK := { acts := [], res := [.tmp 2], sh := (.cons (.dat .bool) .nil), obs := [], pins := [] }
noncomputable def D_im_IsSeason : FD where
 A := A_im_IsSeason
 ins := I_im_IsSeason
 lend := []
 R := Bool
 F := fun x => F_im_IsSeason x.1.1.1 x.1.1.2.1 x.1.1.2.2.1 x.1.1.2.2.2.1
 emb := fun r => ([.dat .bool r], [])
noncomputable def E_im_IsSeason : Env := envOf [(136, D_im_between), (138, D_slices_Concat_Sint_int), (137, D_im_areBetween), (139, D_slices_ContainsFunc_SSSint_SSint), (139, D_slices_ContainsFunc_SSSint_SSint), (140, D_im_IsSeason_1)]
noncomputable def Z_im_IsSeason : Nat → Nat → List Nat := fun _ _ => []
noncomputable def O_im_IsSeason : List (Nat × LD) := []
noncomputable def C_im_IsSeason : Code := (f69.body).getD .skip
noncomputable def T_im_bag_has (a1_ : Int) (a2_ : Int) : Tr (Bool) :=
 .g (decide ((0 : Int) ≤ a2_)) <|
 .l ((IntKind.wrap .u64 (BitVec.toNat ((BitVec.ofInt (IntKind.bits .u64) (Int.fdiv a1_ (2 ^ (min (Int.toNat a2_) (IntKind.bits .u64))))) &&& (BitVec.ofInt (IntKind.bits .u64) (1 : Int))))) == (1 : Int))
noncomputable def F_im_bag_has (a1_ : Int) (a2_ : Int) : Option (Bool) := (T_im_bag_has a1_ a2_).ev
noncomputable def A_im_bag_has : Sh := (.cons (.dat (.int .u64)) (.cons (.dat (.int .i64)) .nil))
noncomputable def I_im_bag_has : List (Nat × OSh) := []
noncomputable def K_im_bag_has : RetK := { acts := [], res := [.tmp 4], sh := (.cons (.dat .bool) .nil), obs := [], pins := [] }
noncomputable def D_im_bag_has : FD where
 A := A_im_bag_has
 ins := I_im_bag_has
 lend := []
 R := Bool
 F := fun x => F_im_bag_has x.1.1 x.1.2.1
 emb := fun r => ([.dat .bool r], [])
noncomputable def E_im_bag_has : Env := envOf []
noncomputable def Z_im_bag_has : Nat → Nat → List Nat := fun _ _ => []
noncomputable def O_im_bag_has : List (Nat × LD) := []
noncomputable def C_im_bag_has : Code := (f152.body).getD .skip
noncomputable def S_im_bag_list_0 (k : Int) (v : (Int) × (List (Int))) : Tr (((Int) × (List (Int))) ⊕ (List (Int))) :=
 .g (decide ((0 : Int) ≤ v.1)) <|
 .t (decide ((0 : Int) < (Int.fdiv k (2 ^ (min (Int.toNat v.1) (IntKind.bits .u64))))))
  (.c (Bool) (F_im_bag_has k v.1) fun r4_ =>
   .t r4_
    (.g (decide ((List.length v.2 + List.length ([v.1] : List (Int))) * 8 ≤ 140737488355328)) <|
     .l (.inl ((IntKind.wrap .i64 (v.1 + (1 : Int))), (v.2 ++ ([v.1] : List (Int))))))
    (.l (.inl ((IntKind.wrap .i64 (v.1 + (1 : Int))), v.2))))
  (.l (.inr v.2))
noncomputable def L_im_bag_list_0 (k : Int) (v : (Int) × (List (Int))) : Option (List (Int)) := iter (fun v => (S_im_bag_list_0 k v).ev) v
noncomputable def DL_im_bag_list_0 : LD where
 head := { acts := [], S := { slots := [0, 3, 4], sh := (.cons (.dat (.int .u64)) (.cons (.arr 5) (.cons (.dat (.int .i64)) .nil))), obs := [(5, .arr 3 (.int .i64))] } }
 exits := [(0, { acts := [], S := { slots := [3], sh := (.cons (.arr 5) .nil), obs := [(5, .arr 3 (.int .i64))] } })]
 rets := { acts := [], S := { slots := [], sh := .nil, obs := [] } }
 K := Int
 V := (Int) × (List (Int))
 R := List (Int)
 join := fun k v => ((k, ((), (v.1, ()))), (v.2, ()))
 sk := fun t => t.1.1
 sv := fun t => (t.1.2.2.1, t.2.1)
 step := S_im_bag_list_0
 leaf := fun _ r => .l (.exit 0 (mkSt ({ slots := [3], sh := (.cons (.arr 5) .nil), obs := [(5, .arr 3 (.int .i64))] }) (((), ()), (r, ()))))
noncomputable def T_im_bag_list (a1_ : Int) : Tr (List (Int)) :=
 .c (List (Int)) (L_im_bag_list_0 a1_ ((0 : Int), ([] : List (Int)))) fun r6_ =>
 .l r6_
noncomputable def F_im_bag_list (a1_ : Int) : Option (List (Int)) := (T_im_bag_list a1_).ev
noncomputable def A_im_bag_list : Sh := (.cons (.dat (.int .u64)) .nil)
noncomputable def I_im_bag_list : List (Nat × OSh) := []
noncomputable def K_im_bag_list : RetK := { acts := [.ren 5 0], res := [.tmp 2], sh := (.cons (.arr 0) .nil), obs := [(0, .arr 3 (.int .i64))], pins := [] }
noncomputable def D_im_bag_list : FD where
 A := A_im_bag_list
 ins := I_im_bag_list
 lend := []
 R := List (Int)
 F := fun x => F_im_bag_list x.1.1
 emb := fun r => ([.arr 0], [(0, .arr 3 (.int .i64) r)])
noncomputable def E_im_bag_list : Env := envOf [(152, D_im_bag_has)]
noncomputable def Z_im_bag_list : Nat → Nat → List Nat := fun _ _ => []
noncomputable def O_im_bag_list : List (Nat × LD) := [(0, DL_im_bag_list_0)]
noncomputable def C_im_bag_list : Code := (f144.body).getD .skip
noncomputable def T_math_bits_Len64 (a1_ : Int) : Tr (Int) :=
 .t (decide ((4294967296 : Int) ≤ a1_))
  (.g (decide ((0 : Int) ≤ (32 : Int))) <|
   .t (decide ((65536 : Int) ≤ (Int.fdiv a1_ (2 ^ (min (Int.toNat (32 : Int)) (IntKind.bits .u64))))))
    (.g (decide ((0 : Int) ≤ (16 : Int))) <|
     .t (decide ((256 : Int) ≤ (Int.fdiv (Int.fdiv a1_ (2 ^ (min (Int.toNat (32 : Int)) (IntKind.bits .u64)))) (2 ^ (min (Int.toNat (16 : Int)) (IntKind.bits .u64))))))
      (.g (decide ((0 : Int) ≤ (8 : Int))) <|
       .g (inR (IntKind.wrap .u8 (Int.fdiv (Int.fdiv (Int.fdiv a1_ (2 ^ (min (Int.toNat (32 : Int)) (IntKind.bits .u64)))) (2 ^ (min (Int.toNat (16 : Int)) (IntKind.bits .u64)))) (2 ^ (min (Int.toNat (8 : Int)) (IntKind.bits .u64))))) (List.length ([0, 1, 2, 2, 3, 3, 3, 3, 4, 4, 4, 4, 4, 4, 4, 4, 5, 5, 5, 5, 5, 5, 5, 5, 5, 5, 5, 5, 5, 5, 5, 5, 6, 6, 6, 6, 6, 6, 6, 6, 6, 6, 6, 6, 6, 6, 6, 6, 6, 6, 6, 6, 6, 6, 6, 6, 6, 6, 6, 6, 6, 6, 6, 6, 7, 7, 7, 7, 7, 7, 7, 7, 7, 7, 7, 7, 7, 7, 7, 7, 7, 7, 7, 7, 7, 7, 7, 7, 7, 7, 7, 7, 7, 7, 7, 7, 7, 7, 7, 7, 7, 7, 7, 7, 7, 7, 7, 7, 7, 7, 7, 7, 7, 7, 7, 7, 7, 7, 7, 7, 7, 7, 7, 7, 7, 7, 7, 7, 8, 8, 8, 8, 8, 8, 8, 8, 8, 8, 8, 8, 8, 8, 8, 8, 8, 8, 8, 8, 8, 8, 8, 8, 8, 8, 8, 8, 8, 8, 8, 8, 8, 8, 8, 8, 8, 8, 8, 8, 8, 8, 8, 8, 8, 8, 8, 8, 8, 8, 8, 8, 8, 8, 8, 8, 8, 8, 8, 8, 8, 8, 8, 8, 8, 8, 8, 8, 8, 8, 8, 8, 8, 8, 8, 8, 8, 8, 8, 8, 8, 8, 8, 8, 8, 8, 8, 8, 8, 8, 8, 8, 8, 8, 8, 8, 8, 8, 8, 8, 8, 8, 8, 8, 8, 8, 8, 8, 8, 8, 8, 8, 8, 8, 8, 8, 8, 8, 8, 8, 8, 8, 8, 8, 8, 8, 8, 8] : List UInt8))) <|
       .l (IntKind.wrap .i64 ((IntKind.wrap .i64 ((IntKind.wrap .i64 ((32 : Int) + (16 : Int))) + (8 : Int))) + (IntKind.wrap .i64 ((UInt8.toNat (List.getD ([0, 1, 2, 2, 3, 3, 3, 3, 4, 4, 4, 4, 4, 4, 4, 4, 5, 5, 5, 5, 5, 5, 5, 5, 5, 5, 5, 5, 5, 5, 5, 5, 6, 6, 6, 6, 6, 6, 6, 6, 6, 6, 6, 6, 6, 6, 6, 6, 6, 6, 6, 6, 6, 6, 6, 6, 6, 6, 6, 6, 6, 6, 6, 6, 7, 7, 7, 7, 7, 7, 7, 7, 7, 7, 7, 7, 7, 7, 7, 7, 7, 7, 7, 7, 7, 7, 7, 7, 7, 7, 7, 7, 7, 7, 7, 7, 7, 7, 7, 7, 7, 7, 7, 7, 7, 7, 7, 7, 7, 7, 7, 7, 7, 7, 7, 7, 7, 7, 7, 7, 7, 7, 7, 7, 7, 7, 7, 7, 8, 8, 8, 8, 8, 8, 8, 8, 8, 8, 8, 8, 8, 8, 8, 8, 8, 8, 8, 8, 8, 8, 8, 8, 8, 8, 8, 8, 8, 8, 8, 8, 8, 8, 8, 8, 8, 8, 8, 8, 8, 8, 8, 8, 8, 8, 8, 8, 8, 8, 8, 8, 8, 8, 8, 8, 8, 8, 8, 8, 8, 8, 8, 8, 8, 8, 8, 8, 8, 8, 8, 8, 8, 8, 8, 8, 8, 8, 8, 8, 8, 8, 8, 8, 8, 8, 8, 8, 8, 8, 8, 8, 8, 8, 8, 8, 8, 8, 8, 8, 8, 8, 8, 8, 8, 8, 8, 8, 8, 8, 8, 8, 8, 8, 8, 8, 8, 8, 8, 8, 8, 8, 8, 8, 8, 8, 8, 8] : List UInt8) (Int.toNat (IntKind.wrap .u8 (Int.fdiv (Int.fdiv (Int.fdiv a1_ (2 ^ (min (Int.toNat (32 : Int)) (IntKind.bits .u64)))) (2 ^ (min (Int.toNat (16 : Int)) (IntKind.bits .u64)))) (2 ^ (min (Int.toNat (8 : Int)) (IntKind.bits .u64)))))) 0) : Nat) : Int)))))
      (.g (inR (IntKind.wrap .u8 (Int.fdiv (Int.fdiv a1_ (2 ^ (min (Int.toNat (32 : Int)) (IntKind.bits .u64)))) (2 ^ (min (Int.toNat (16 : Int)) (IntKind.bits .u64))))) (List.length ([0, 1, 2, 2, 3, 3, 3, 3, 4, 4, 4, 4, 4, 4, 4, 4, 5, 5, 5, 5, 5, 5, 5, 5, 5, 5, 5, 5, 5, 5, 5, 5, 6, 6, 6, 6, 6, 6, 6, 6, 6, 6, 6, 6, 6, 6, 6, 6, 6, 6, 6, 6, 6, 6, 6, 6, 6, 6, 6, 6, 6, 6, 6, 6, 7, 7, 7, 7, 7, 7, 7, 7, 7, 7, 7, 7, 7, 7, 7, 7, 7, 7, 7, 7, 7, 7, 7, 7, 7, 7, 7, 7, 7, 7, 7, 7, 7, 7, 7, 7, 7, 7, 7, 7, 7, 7, 7, 7, 7, 7, 7, 7, 7, 7, 7, 7, 7, 7, 7, 7, 7, 7, 7, 7, 7, 7, 7, 7, 8, 8, 8, 8, 8, 8, 8, 8, 8, 8, 8, 8, 8, 8, 8, 8, 8, 8, 8, 8, 8, 8, 8, 8, 8, 8, 8, 8, 8, 8, 8, 8, 8, 8, 8, 8, 8, 8, 8, 8, 8, 8, 8, 8, 8, 8, 8, 8, 8, 8, 8, 8, 8, 8, 8, 8, 8, 8, 8, 8, 8, 8, 8, 8, 8, 8, 8, 8, 8, 8, 8, 8, 8, 8, 8, 8, 8, 8, 8, 8, 8, 8, 8, 8, 8, 8, 8, 8, 8, 8, 8, 8, 8, 8, 8, 8, 8, 8, 8, 8, 8, 8, 8, 8, 8, 8, 8, 8, 8, 8, 8, 8, 8, 8, 8, 8, 8, 8, 8, 8, 8, 8, 8, 8, 8, 8, 8, 8] : List UInt8))) <|
       .l (IntKind.wrap .i64 ((IntKind.wrap .i64 ((32 : Int) + (16 : Int))) + (IntKind.wrap .i64 ((UInt8.toNat (List.getD ([0, 1, 2, 2, 3, 3, 3, 3, 4, 4, 4, 4, 4, 4, 4, 4, 5, 5, 5, 5, 5, 5, 5, 5, 5, 5, 5, 5, 5, 5, 5, 5, 6, 6, 6, 6, 6, 6, 6, 6, 6, 6, 6, 6, 6, 6, 6, 6, 6, 6, 6, 6, 6, 6, 6, 6, 6, 6, 6, 6, 6, 6, 6, 6, 7, 7, 7, 7, 7, 7, 7, 7, 7, 7, 7, 7, 7, 7, 7, 7, 7, 7, 7, 7, 7, 7, 7, 7, 7, 7, 7, 7, 7, 7, 7, 7, 7, 7, 7, 7, 7, 7, 7, 7, 7, 7, 7, 7, 7, 7, 7, 7, 7, 7, 7, 7, 7, 7, 7, 7, 7, 7, 7, 7, 7, 7, 7, 7, 8, 8, 8, 8, 8, 8, 8, 8, 8, 8, 8, 8, 8, 8, 8, 8, 8, 8, 8, 8, 8, 8, 8, 8, 8, 8, 8, 8, 8, 8, 8, 8, 8, 8, 8, 8, 8, 8, 8, 8, 8, 8, 8, 8, 8, 8, 8, 8, 8, 8, 8, 8, 8, 8, 8, 8, 8, 8, 8, 8, 8, 8, 8, 8, 8, 8, 8, 8, 8, 8, 8, 8, 8, 8, 8, 8, 8, 8, 8, 8, 8, 8, 8, 8, 8, 8, 8, 8, 8, 8, 8, 8, 8, 8, 8, 8, 8, 8, 8, 8, 8, 8, 8, 8, 8, 8, 8, 8, 8, 8, 8, 8, 8, 8, 8, 8, 8, 8, 8, 8, 8, 8, 8, 8, 8, 8, 8, 8] : List UInt8) (Int.toNat (IntKind.wrap .u8 (Int.fdiv (Int.fdiv a1_ (2 ^ (min (Int.toNat (32 : Int)) (IntKind.bits .u64)))) (2 ^ (min (Int.toNat (16 : Int)) (IntKind.bits .u64)))))) 0) : Nat) : Int))))))
    (.t (decide ((256 : Int) ≤ (Int.fdiv a1_ (2 ^ (min (Int.toNat (32 : Int)) (IntKind.bits .u64))))))
      (.g (decide ((0 : Int) ≤ (8 : Int))) <|
       .g (inR (IntKind.wrap .u8 (Int.fdiv (Int.fdiv a1_ (2 ^ (min (Int.toNat (32 : Int)) (IntKind.bits .u64)))) (2 ^ (min (Int.toNat (8 : Int)) (IntKind.bits .u64))))) (List.length ([0, 1, 2, 2, 3, 3, 3, 3, 4, 4, 4, 4, 4, 4, 4, 4, 5, 5, 5, 5, 5, 5, 5, 5, 5, 5, 5, 5, 5, 5, 5, 5, 6, 6, 6, 6, 6, 6, 6, 6, 6, 6, 6, 6, 6, 6, 6, 6, 6, 6, 6, 6, 6, 6, 6, 6, 6, 6, 6, 6, 6, 6, 6, 6, 7, 7, 7, 7, 7, 7, 7, 7, 7, 7, 7, 7, 7, 7, 7, 7, 7, 7, 7, 7, 7, 7, 7, 7, 7, 7, 7, 7, 7, 7, 7, 7, 7, 7, 7, 7, 7, 7, 7, 7, 7, 7, 7, 7, 7, 7, 7, 7, 7, 7, 7, 7, 7, 7, 7, 7, 7, 7, 7, 7, 7, 7, 7, 7, 8, 8, 8, 8, 8, 8, 8, 8, 8, 8, 8, 8, 8, 8, 8, 8, 8, 8, 8, 8, 8, 8, 8, 8, 8, 8, 8, 8, 8, 8, 8, 8, 8, 8, 8, 8, 8, 8, 8, 8, 8, 8, 8, 8, 8, 8, 8, 8, 8, 8, 8, 8, 8, 8, 8, 8, 8, 8, 8, 8, 8, 8, 8, 8, 8, 8, 8, 8, 8, 8, 8, 8, 8, 8, 8, 8, 8, 8, 8, 8, 8, 8, 8, 8, 8, 8, 8, 8, 8, 8, 8, 8, 8, 8, 8, 8, 8, 8, 8, 8, 8, 8, 8, 8, 8, 8, 8, 8, 8, 8, 8, 8, 8, 8, 8, 8, 8, 8, 8, 8, 8, 8, 8, 8, 8, 8, 8, 8] : List UInt8))) <|
       .l (IntKind.wrap .i64 ((IntKind.wrap .i64 ((32 : Int) + (8 : Int))) + (IntKind.wrap .i64 ((UInt8.toNat (List.getD ([0, 1, 2, 2, 3, 3, 3, 3, 4, 4, 4, 4, 4, 4, 4, 4, 5, 5, 5, 5, 5, 5, 5, 5, 5, 5, 5, 5, 5, 5, 5, 5, 6, 6, 6, 6, 6, 6, 6, 6, 6, 6, 6, 6, 6, 6, 6, 6, 6, 6, 6, 6, 6, 6, 6, 6, 6, 6, 6, 6, 6, 6, 6, 6, 7, 7, 7, 7, 7, 7, 7, 7, 7, 7, 7, 7, 7, 7, 7, 7, 7, 7, 7, 7, 7, 7, 7, 7, 7, 7, 7, 7, 7, 7, 7, 7, 7, 7, 7, 7, 7, 7, 7, 7, 7, 7, 7, 7, 7, 7, 7, 7, 7, 7, 7, 7, 7, 7, 7, 7, 7, 7, 7, 7, 7, 7, 7, 7, 8, 8, 8, 8, 8, 8, 8, 8, 8, 8, 8, 8, 8, 8, 8, 8, 8, 8, 8, 8, 8, 8, 8, 8, 8, 8, 8, 8, 8, 8, 8, 8, 8, 8, 8, 8, 8, 8, 8, 8, 8, 8, 8, 8, 8, 8, 8, 8, 8, 8, 8, 8, 8, 8, 8, 8, 8, 8, 8, 8, 8, 8, 8, 8, 8, 8, 8, 8, 8, 8, 8, 8, 8, 8, 8, 8, 8, 8, 8, 8, 8, 8, 8, 8, 8, 8, 8, 8, 8, 8, 8, 8, 8, 8, 8, 8, 8, 8, 8, 8, 8, 8, 8, 8, 8, 8, 8, 8, 8, 8, 8, 8, 8, 8, 8, 8, 8, 8, 8, 8, 8, 8, 8, 8, 8, 8, 8, 8] : List UInt8) (Int.toNat (IntKind.wrap .u8 (Int.fdiv (Int.fdiv a1_ (2 ^ (min (Int.toNat (32 : Int)) (IntKind.bits .u64)))) (2 ^ (min (Int.toNat (8 : Int)) (IntKind.bits .u64)))))) 0) : Nat) : Int)))))
      (.g (inR (IntKind.wrap .u8 (Int.fdiv a1_ (2 ^ (min (Int.toNat (32 : Int)) (IntKind.bits .u64))))) (List.length ([0, 1, 2, 2, 3, 3, 3, 3, 4, 4, 4, 4, 4, 4, 4, 4, 5, 5, 5, 5, 5, 5, 5, 5, 5, 5, 5, 5, 5, 5, 5, 5, 6, 6, 6, 6, 6, 6, 6, 6, 6, 6, 6, 6, 6, 6, 6, 6, 6, 6, 6, 6, 6, 6, 6, 6, 6, 6, 6, 6, 6, 6, 6, 6, 7, 7, 7, 7, 7, 7, 7, 7, 7, 7, 7, 7, 7, 7, 7, 7, 7, 7, 7, 7, 7, 7, 7, 7, 7, 7, 7, 7, 7, 7, 7, 7, 7, 7, 7, 7, 7, 7, 7, 7, 7, 7, 7, 7, 7, 7, 7, 7, 7, 7, 7, 7, 7, 7, 7, 7, 7, 7, 7, 7, 7, 7, 7, 7, 8, 8, 8, 8, 8, 8, 8, 8, 8, 8, 8, 8, 8, 8, 8, 8, 8, 8, 8, 8, 8, 8, 8, 8, 8, 8, 8, 8, 8, 8, 8, 8, 8, 8, 8, 8, 8, 8, 8, 8, 8, 8, 8, 8, 8, 8, 8, 8, 8, 8, 8, 8, 8, 8, 8, 8, 8, 8, 8, 8, 8, 8, 8, 8, 8, 8, 8, 8, 8, 8, 8, 8, 8, 8, 8, 8, 8, 8, 8, 8, 8, 8, 8, 8, 8, 8, 8, 8, 8, 8, 8, 8, 8, 8, 8, 8, 8, 8, 8, 8, 8, 8, 8, 8, 8, 8, 8, 8, 8, 8, 8, 8, 8, 8, 8, 8, 8, 8, 8, 8, 8, 8, 8, 8, 8, 8, 8, 8] : List UInt8))) <|
       .l (IntKind.wrap .i64 ((32 : Int) + (IntKind.wrap .i64 ((UInt8.toNat (List.getD ([0, 1, 2, 2, 3, 3, 3, 3, 4, 4, 4, 4, 4, 4, 4, 4, 5, 5, 5, 5, 5, 5, 5, 5, 5, 5, 5, 5, 5, 5, 5, 5, 6, 6, 6, 6, 6, 6, 6, 6, 6, 6, 6, 6, 6, 6, 6, 6, 6, 6, 6, 6, 6, 6, 6, 6, 6, 6, 6, 6, 6, 6, 6, 6, 7, 7, 7, 7, 7, 7, 7, 7, 7, 7, 7, 7, 7, 7, 7, 7, 7, 7, 7, 7, 7, 7, 7, 7, 7, 7, 7, 7, 7, 7, 7, 7, 7, 7, 7, 7, 7, 7, 7, 7, 7, 7, 7, 7, 7, 7, 7, 7, 7, 7, 7, 7, 7, 7, 7, 7, 7, 7, 7, 7, 7, 7, 7, 7, 8, 8, 8, 8, 8, 8, 8, 8, 8, 8, 8, 8, 8, 8, 8, 8, 8, 8, 8, 8, 8, 8, 8, 8, 8, 8, 8, 8, 8, 8, 8, 8, 8, 8, 8, 8, 8, 8, 8, 8, 8, 8, 8, 8, 8, 8, 8, 8, 8, 8, 8, 8, 8, 8, 8, 8, 8, 8, 8, 8, 8, 8, 8, 8, 8, 8, 8, 8, 8, 8, 8, 8, 8, 8, 8, 8, 8, 8, 8, 8, 8, 8, 8, 8, 8, 8, 8, 8, 8, 8, 8, 8, 8, 8, 8, 8, 8, 8, 8, 8, 8, 8, 8, 8, 8, 8, 8, 8, 8, 8, 8, 8, 8, 8, 8, 8, 8, 8, 8, 8, 8, 8, 8, 8, 8, 8, 8, 8] : List UInt8) (Int.toNat (IntKind.wrap .u8 (Int.fdiv a1_ (2 ^ (min (Int.toNat (32 : Int)) (IntKind.bits .u64)))))) 0) : Nat) : Int)))))))
  (.t (decide ((65536 : Int) ≤ a1_))
    (.g (decide ((0 : Int) ≤ (16 : Int))) <|
     .t (decide ((256 : Int) ≤ (Int.fdiv a1_ (2 ^ (min (Int.toNat (16 : Int)) (IntKind.bits .u64))))))
      (.g (decide ((0 : Int) ≤ (8 : Int))) <|
       .g (inR (IntKind.wrap .u8 (Int.fdiv (Int.fdiv a1_ (2 ^ (min (Int.toNat (16 : Int)) (IntKind.bits .u64)))) (2 ^ (min (Int.toNat (8 : Int)) (IntKind.bits .u64))))) (List.length ([0, 1, 2, 2, 3, 3, 3, 3, 4, 4, 4, 4, 4, 4, 4, 4, 5, 5, 5, 5, 5, 5, 5, 5, 5, 5, 5, 5, 5, 5, 5, 5, 6, 6, 6, 6, 6, 6, 6, 6, 6, 6, 6, 6, 6, 6, 6, 6, 6, 6, 6, 6, 6, 6, 6, 6, 6, 6, 6, 6, 6, 6, 6, 6, 7, 7, 7, 7, 7, 7, 7, 7, 7, 7, 7, 7, 7, 7, 7, 7, 7, 7, 7, 7, 7, 7, 7, 7, 7, 7, 7, 7, 7, 7, 7, 7, 7, 7, 7, 7, 7, 7, 7, 7, 7, 7, 7, 7, 7, 7, 7, 7, 7, 7, 7, 7, 7, 7, 7, 7, 7, 7, 7, 7, 7, 7, 7, 7, 8, 8, 8, 8, 8, 8, 8, 8, 8, 8, 8, 8, 8, 8, 8, 8, 8, 8, 8, 8, 8, 8, 8, 8, 8, 8, 8, 8, 8, 8, 8, 8, 8, 8, 8, 8, 8, 8, 8, 8, 8, 8, 8, 8, 8, 8, 8, 8, 8, 8, 8, 8, 8, 8, 8, 8, 8, 8, 8, 8, 8, 8, 8, 8, 8, 8, 8, 8, 8, 8, 8, 8, 8, 8, 8, 8, 8, 8, 8, 8, 8, 8, 8, 8, 8, 8, 8, 8, 8, 8, 8, 8, 8, 8, 8, 8, 8, 8, 8, 8, 8, 8, 8, 8, 8, 8, 8, 8, 8, 8, 8, 8, 8, 8, 8, 8, 8, 8, 8, 8, 8, 8, 8, 8, 8, 8, 8, 8] : List UInt8))) <|
       .l (IntKind.wrap .i64 ((IntKind.wrap .i64 ((IntKind.wrap .i64 ((0 : Int) + (16 : Int))) + (8 : Int))) + (IntKind.wrap .i64 ((UInt8.toNat (List.getD ([0, 1, 2, 2, 3, 3, 3, 3, 4, 4, 4, 4, 4, 4, 4, 4, 5, 5, 5, 5, 5, 5, 5, 5, 5, 5, 5, 5, 5, 5, 5, 5, 6, 6, 6, 6, 6, 6, 6, 6, 6, 6, 6, 6, 6, 6, 6, 6, 6, 6, 6, 6, 6, 6, 6, 6, 6, 6, 6, 6, 6, 6, 6, 6, 7, 7, 7, 7, 7, 7, 7, 7, 7, 7, 7, 7, 7, 7, 7, 7, 7, 7, 7, 7, 7, 7, 7, 7, 7, 7, 7, 7, 7, 7, 7, 7, 7, 7, 7, 7, 7, 7, 7, 7, 7, 7, 7, 7, 7, 7, 7, 7, 7, 7, 7, 7, 7, 7, 7, 7, 7, 7, 7, 7, 7, 7, 7, 7, 8, 8, 8, 8, 8, 8, 8, 8, 8, 8, 8, 8, 8, 8, 8, 8, 8, 8, 8, 8, 8, 8, 8, 8, 8, 8, 8, 8, 8, 8, 8, 8, 8, 8, 8, 8, 8, 8, 8, 8, 8, 8, 8, 8, 8, 8, 8, 8, 8, 8, 8, 8, 8, 8, 8, 8, 8, 8, 8, 8, 8, 8, 8, 8, 8, 8, 8, 8, 8, 8, 8, 8, 8, 8, 8, 8, 8, 8, 8, 8, 8, 8, 8, 8, 8, 8, 8, 8, 8, 8, 8, 8, 8, 8, 8, 8, 8, 8, 8, 8, 8, 8, 8, 8, 8, 8, 8, 8, 8, 8, 8, 8, 8, 8, 8, 8, 8, 8, 8, 8, 8, 8, 8, 8, 8, 8, 8, 8] : List UInt8) (Int.toNat (IntKind.wrap .u8 (Int.fdiv (Int.fdiv a1_ (2 ^ (min (Int.toNat (16 : Int)) (IntKind.bits .u64)))) (2 ^ (min (Int.toNat (8 : Int)) (IntKind.bits .u64)))))) 0) : Nat) : Int)))))
      (.g (inR (IntKind.wrap .u8 (Int.fdiv a1_ (2 ^ (min (Int.toNat (16 : Int)) (IntKind.bits .u64))))) (List.length ([0, 1, 2, 2, 3, 3, 3, 3, 4, 4, 4, 4, 4, 4, 4, 4, 5, 5, 5, 5, 5, 5, 5, 5, 5, 5, 5, 5, 5, 5, 5, 5, 6, 6, 6, 6, 6, 6, 6, 6, 6, 6, 6, 6, 6, 6, 6, 6, 6, 6, 6, 6, 6, 6, 6, 6, 6, 6, 6, 6, 6, 6, 6, 6, 7, 7, 7, 7, 7, 7, 7, 7, 7, 7, 7, 7, 7, 7, 7, 7, 7, 7, 7, 7, 7, 7, 7, 7, 7, 7, 7, 7, 7, 7, 7, 7, 7, 7, 7, 7, 7, 7, 7, 7, 7, 7, 7, 7, 7, 7, 7, 7, 7, 7, 7, 7, 7, 7, 7, 7, 7, 7, 7, 7, 7, 7, 7, 7, 8, 8, 8, 8, 8, 8, 8, 8, 8, 8, 8, 8, 8, 8, 8, 8, 8, 8, 8, 8, 8, 8, 8, 8, 8, 8, 8, 8, 8, 8, 8, 8, 8, 8, 8, 8, 8, 8, 8, 8, 8, 8, 8, 8, 8, 8, 8, 8, 8, 8, 8, 8, 8, 8, 8, 8, 8, 8, 8, 8, 8, 8, 8, 8, 8, 8, 8, 8, 8, 8, 8, 8, 8, 8, 8, 8, 8, 8, 8, 8, 8, 8, 8, 8, 8, 8, 8, 8, 8, 8, 8, 8, 8, 8, 8, 8, 8, 8, 8, 8, 8, 8, 8, 8, 8, 8, 8, 8, 8, 8, 8, 8, 8, 8, 8, 8, 8, 8, 8, 8, 8, 8, 8, 8, 8, 8, 8, 8] : List UInt8))) <|
       .l (IntKind.wrap .i64 ((IntKind.wrap .i64 ((0 : Int) + (16 : Int))) + (IntKind.wrap .i64 ((UInt8.toNat (List.getD ([0, 1, 2, 2, 3, 3, 3, 3, 4, 4, 4, 4, 4, 4, 4, 4, 5, 5, 5, 5, 5, 5, 5, 5, 5, 5, 5, 5, 5, 5, 5, 5, 6, 6, 6, 6, 6, 6, 6, 6, 6, 6, 6, 6, 6, 6, 6, 6, 6, 6, 6, 6, 6, 6, 6, 6, 6, 6, 6, 6, 6, 6, 6, 6, 7, 7, 7, 7, 7, 7, 7, 7, 7, 7, 7, 7, 7, 7, 7, 7, 7, 7, 7, 7, 7, 7, 7, 7, 7, 7, 7, 7, 7, 7, 7, 7, 7, 7, 7, 7, 7, 7, 7, 7, 7, 7, 7, 7, 7, 7, 7, 7, 7, 7, 7, 7, 7, 7, 7, 7, 7, 7, 7, 7, 7, 7, 7, 7, 8, 8, 8, 8, 8, 8, 8, 8, 8, 8, 8, 8, 8, 8, 8, 8, 8, 8, 8, 8, 8, 8, 8, 8, 8, 8, 8, 8, 8, 8, 8, 8, 8, 8, 8, 8, 8, 8, 8, 8, 8, 8, 8, 8, 8, 8, 8, 8, 8, 8, 8, 8, 8, 8, 8, 8, 8, 8, 8, 8, 8, 8, 8, 8, 8, 8, 8, 8, 8, 8, 8, 8, 8, 8, 8, 8, 8, 8, 8, 8, 8, 8, 8, 8, 8, 8, 8, 8, 8, 8, 8, 8, 8, 8, 8, 8, 8, 8, 8, 8, 8, 8, 8, 8, 8, 8, 8, 8, 8, 8, 8, 8, 8, 8, 8, 8, 8, 8, 8, 8, 8, 8, 8, 8, 8, 8, 8, 8] : List UInt8) (Int.toNat (IntKind.wrap .u8 (Int.fdiv a1_ (2 ^ (min (Int.toNat (16 : Int)) (IntKind.bits .u64)))))) 0) : Nat) : Int))))))
    (.t (decide ((256 : Int) ≤ a1_))
      (.g (decide ((0 : Int) ≤ (8 : Int))) <|
       .g (inR (IntKind.wrap .u8 (Int.fdiv a1_ (2 ^ (min (Int.toNat (8 : Int)) (IntKind.bits .u64))))) (List.length ([0, 1, 2, 2, 3, 3, 3, 3, 4, 4, 4, 4, 4, 4, 4, 4, 5, 5, 5, 5, 5, 5, 5, 5, 5, 5, 5, 5, 5, 5, 5, 5, 6, 6, 6, 6, 6, 6, 6, 6, 6, 6, 6, 6, 6, 6, 6, 6, 6, 6, 6, 6, 6, 6, 6, 6, 6, 6, 6, 6, 6, 6, 6, 6, 7, 7, 7, 7, 7, 7, 7, 7, 7, 7, 7, 7, 7, 7, 7, 7, 7, 7, 7, 7, 7, 7, 7, 7, 7, 7, 7, 7, 7, 7, 7, 7, 7, 7, 7, 7, 7, 7, 7, 7, 7, 7, 7, 7, 7, 7, 7, 7, 7, 7, 7, 7, 7, 7, 7, 7, 7, 7, 7, 7, 7, 7, 7, 7, 8, 8, 8, 8, 8, 8, 8, 8, 8, 8, 8, 8, 8, 8, 8, 8, 8, 8, 8, 8, 8, 8, 8, 8, 8, 8, 8, 8, 8, 8, 8, 8, 8, 8, 8, 8, 8, 8, 8, 8, 8, 8, 8, 8, 8, 8, 8, 8, 8, 8, 8, 8, 8, 8, 8, 8, 8, 8, 8, 8, 8, 8, 8, 8, 8, 8, 8, 8, 8, 8, 8, 8, 8, 8, 8, 8, 8, 8, 8, 8, 8, 8, 8, 8, 8, 8, 8, 8, 8, 8, 8, 8, 8, 8, 8, 8, 8, 8, 8, 8, 8, 8, 8, 8, 8, 8, 8, 8, 8, 8, 8, 8, 8, 8, 8, 8, 8, 8, 8, 8, 8, 8, 8, 8, 8, 8, 8, 8] : List UInt8))) <|
       .l (IntKind.wrap .i64 ((IntKind.wrap .i64 ((0 : Int) + (8 : Int))) + (IntKind.wrap .i64 ((UInt8.toNat (List.getD ([0, 1, 2, 2, 3, 3, 3, 3, 4, 4, 4, 4, 4, 4, 4, 4, 5, 5, 5, 5, 5, 5, 5, 5, 5, 5, 5, 5, 5, 5, 5, 5, 6, 6, 6, 6, 6, 6, 6, 6, 6, 6, 6, 6, 6, 6, 6, 6, 6, 6, 6, 6, 6, 6, 6, 6, 6, 6, 6, 6, 6, 6, 6, 6, 7, 7, 7, 7, 7, 7, 7, 7, 7, 7, 7, 7, 7, 7, 7, 7, 7, 7, 7, 7, 7, 7, 7, 7, 7, 7, 7, 7, 7, 7, 7, 7, 7, 7, 7, 7, 7, 7, 7, 7, 7, 7, 7, 7, 7, 7, 7, 7, 7, 7, 7, 7, 7, 7, 7, 7, 7, 7, 7, 7, 7, 7, 7, 7, 8, 8, 8, 8, 8, 8, 8, 8, 8, 8, 8, 8, 8, 8, 8, 8, 8, 8, 8, 8, 8, 8, 8, 8, 8, 8, 8, 8, 8, 8, 8, 8, 8, 8, 8, 8, 8, 8, 8, 8, 8, 8, 8, 8, 8, 8, 8, 8, 8, 8, 8, 8, 8, 8, 8, 8, 8, 8, 8, 8, 8, 8, 8, 8, 8, 8, 8, 8, 8, 8, 8, 8, 8, 8, 8, 8, 8, 8, 8, 8, 8, 8, 8, 8, 8, 8, 8, 8, 8, 8, 8, 8, 8, 8, 8, 8, 8, 8, 8, 8, 8, 8, 8, 8, 8, 8, 8, 8, 8, 8, 8, 8, 8, 8, 8, 8, 8, 8, 8, 8, 8, 8, 8, 8, 8, 8, 8, 8] : List UInt8) (Int.toNat (IntKind.wrap .u8 (Int.fdiv a1_ (2 ^ (min (Int.toNat (8 : Int)) (IntKind.bits .u64)))))) 0) : Nat) : Int)))))
      (.g (inR (IntKind.wrap .u8 a1_) (List.length ([0, 1, 2, 2, 3, 3, 3, 3, 4, 4, 4, 4, 4, 4, 4, 4, 5, 5, 5, 5, 5, 5, 5, 5, 5, 5, 5, 5, 5, 5, 5, 5, 6, 6, 6, 6, 6, 6, 6, 6, 6, 6, 6, 6, 6, 6, 6, 6, 6, 6, 6, 6, 6, 6, 6, 6, 6, 6, 6, 6, 6, 6, 6, 6, 7, 7, 7, 7, 7, 7, 7, 7, 7, 7, 7, 7, 7, 7, 7, 7, 7, 7, 7, 7, 7, 7, 7, 7, 7, 7, 7, 7, 7, 7, 7, 7, 7, 7, 7, 7, 7, 7, 7, 7, 7, 7, 7, 7, 7, 7, 7, 7, 7, 7, 7, 7, 7, 7, 7, 7, 7, 7, 7, 7, 7, 7, 7, 7, 8, 8, 8, 8, 8, 8, 8, 8, 8, 8, 8, 8, 8, 8, 8, 8, 8, 8, 8, 8, 8, 8, 8, 8, 8, 8, 8, 8, 8, 8, 8, 8, 8, 8, 8, 8, 8, 8, 8, 8, 8, 8, 8, 8, 8, 8, 8, 8, 8, 8, 8, 8, 8, 8, 8, 8, 8, 8, 8, 8, 8, 8, 8, 8, 8, 8, 8, 8, 8, 8, 8, 8, 8, 8, 8, 8, 8, 8, 8, 8, 8, 8, 8, 8, 8, 8, 8, 8, 8, 8, 8, 8, 8, 8, 8, 8, 8, 8, 8, 8, 8, 8, 8, 8, 8, 8, 8, 8, 8, 8, 8, 8, 8, 8, 8, 8, 8, 8, 8, 8, 8, 8, 8, 8, 8, 8, 8, 8] : List UInt8))) <|
       .l (IntKind.wrap .i64 ((0 : Int) + (IntKind.wrap .i64 ((UInt8.toNat (List.getD ([0, 1, 2, 2, 3, 3, 3, 3, 4, 4, 4, 4, 4, 4, 4, 4, 5, 5, 5, 5, 5, 5, 5, 5, 5, 5, 5, 5, 5, 5, 5, 5, 6, 6, 6, 6, 6, 6, 6, 6, 6, 6, 6, 6, 6, 6, 6, 6, 6, 6, 6, 6, 6, 6, 6, 6, 6, 6, 6, 6, 6, 6, 6, 6, 7, 7, 7, 7, 7, 7, 7, 7, 7, 7, 7, 7, 7, 7, 7, 7, 7, 7, 7, 7, 7, 7, 7, 7, 7, 7, 7, 7, 7, 7, 7, 7, 7, 7, 7, 7, 7, 7, 7, 7, 7, 7, 7, 7, 7, 7, 7, 7, 7, 7, 7, 7, 7, 7, 7, 7, 7, 7, 7, 7, 7, 7, 7, 7, 8, 8, 8, 8, 8, 8, 8, 8, 8, 8, 8, 8, 8, 8, 8, 8, 8, 8, 8, 8, 8, 8, 8, 8, 8, 8, 8, 8, 8, 8, 8, 8, 8, 8, 8, 8, 8, 8, 8, 8, 8, 8, 8, 8, 8, 8, 8, 8, 8, 8, 8, 8, 8, 8, 8, 8, 8, 8, 8, 8, 8, 8, 8, 8, 8, 8, 8, 8, 8, 8, 8, 8, 8, 8, 8, 8, 8, 8, 8, 8, 8, 8, 8, 8, 8, 8, 8, 8, 8, 8, 8, 8, 8, 8, 8, 8, 8, 8, 8, 8, 8, 8, 8, 8, 8, 8, 8, 8, 8, 8, 8, 8, 8, 8, 8, 8, 8, 8, 8, 8, 8, 8, 8, 8, 8, 8, 8, 8] : List UInt8) (Int.toNat (IntKind.wrap .u8 a1_)) 0) : Nat) : Int)))))))
noncomputable def F_math_bits_Len64 (a1_ : Int) : Option (Int) := (T_math_bits_Len64 a1_).ev
noncomputable def A_math_bits_Len64 : Sh := (.cons (.dat (.int .u64)) .nil)
noncomputable def I_math_bits_Len64 : List (Nat × OSh) := []
noncomputable def K_math_bits_Len64 : RetK := { acts := [], res := [.tmp 2], sh := (.cons (.dat (.int .i64)) .nil), obs := [], pins := [] }
noncomputable def D_math_bits_Len64 : FD where
 A := A_math_bits_Len64
 ins := I_math_bits_Len64
 lend := []
 R := Int
 F := fun x => F_math_bits_Len64 x.1.1
 emb := fun r => ([.dat (.int .i64) r], [])
noncomputable def E_math_bits_Len64 : Env := envOf []
noncomputable def Z_math_bits_Len64 : Nat → Nat → List Nat := fun _ _ => []
noncomputable def O_math_bits_Len64 : List (Nat × LD) := []
noncomputable def C_math_bits_Len64 : Code := (f204.body).getD .skip
noncomputable def T_math_bits_Len (a1_ : Int) : Tr (Int) :=
 .c (Int) (F_math_bits_Len64 a1_) fun r1_ =>
 .l r1_
noncomputable def F_math_bits_Len (a1_ : Int) : Option (Int) := (T_math_bits_Len a1_).ev
noncomputable def A_math_bits_Len : Sh := (.cons (.dat (.int .u64)) .nil)
noncomputable def I_math_bits_Len : List (Nat × OSh) := []
noncomputable def K_math_bits_Len : RetK := { acts := [], res := [.tmp 2], sh := (.cons (.dat (.int .i64)) .nil), obs := [], pins := [] }
noncomputable def D_math_bits_Len : FD where
 A := A_math_bits_Len
 ins := I_math_bits_Len
 lend := []
 R := Int
 F := fun x => F_math_bits_Len x.1.1
 emb := fun r => ([.dat (.int .i64) r], [])
noncomputable def E_math_bits_Len : Env := envOf [(204, D_math_bits_Len64)]
noncomputable def Z_math_bits_Len : Nat → Nat → List Nat := fun _ _ => []
noncomputable def O_math_bits_Len : List (Nat × LD) := []
noncomputable def C_math_bits_Len : Code := (f185.body).getD .skip
noncomputable def S_slices_insertionSortCmpFunc_Sint_2 (k : (Int) × ((Int) × (((HL [(.slice (.int .i64)), (.slice (.int .i64))] → Option (Int))) × (Int)))) (v : (Int) × (List (List (Int)))) : Tr (((Int) × (List (List (Int)))) ⊕ (List (List (Int)))) :=
 .t (decide (k.1 < v.1))
  (.g (inR v.1 (List.length v.2)) <|
   .g (decide ((Int.toNat v.1) < List.length v.2)) <|
   .g (inR (IntKind.wrap .i64 (v.1 - (1 : Int))) (List.length v.2)) <|
   .g (decide ((Int.toNat (IntKind.wrap .i64 (v.1 - (1 : Int)))) < List.length v.2)) <|
   .c (Int) (k.2.2.1 ((List.getD v.2 (Int.toNat v.1) ([] : List (Int))), ((List.getD v.2 (Int.toNat (IntKind.wrap .i64 (v.1 - (1 : Int)))) ([] : List (Int))), ()))) fun r12_ =>
   .t (decide (r12_ < (0 : Int)))
    (.g (inR (IntKind.wrap .i64 (v.1 - (1 : Int))) (List.length v.2)) <|
     .g (decide ((Int.toNat (IntKind.wrap .i64 (v.1 - (1 : Int)))) < List.length v.2)) <|
     .g (inR v.1 (List.length v.2)) <|
     .g (decide ((Int.toNat v.1) < List.length v.2)) <|
     .g (inR v.1 (List.length v.2)) <|
     .g (decide ((Int.toNat v.1) < List.length v.2)) <|
     .g (inR (IntKind.wrap .i64 (v.1 - (1 : Int))) (List.length (List.set v.2 (Int.toNat v.1) (List.getD v.2 (Int.toNat (IntKind.wrap .i64 (v.1 - (1 : Int)))) ([] : List (Int)))))) <|
     .g (decide ((Int.toNat (IntKind.wrap .i64 (v.1 - (1 : Int)))) < List.length (List.set v.2 (Int.toNat v.1) (List.getD v.2 (Int.toNat (IntKind.wrap .i64 (v.1 - (1 : Int)))) ([] : List (Int)))))) <|
     .l (.inl ((IntKind.wrap .i64 (v.1 - (1 : Int))), (List.set (List.set v.2 (Int.toNat v.1) (List.getD v.2 (Int.toNat (IntKind.wrap .i64 (v.1 - (1 : Int)))) ([] : List (Int)))) (Int.toNat (IntKind.wrap .i64 (v.1 - (1 : Int)))) (List.getD v.2 (Int.toNat v.1) ([] : List (Int)))))))
    (.l (.inr v.2)))
  (.l (.inr v.2))
noncomputable def L_slices_insertionSortCmpFunc_Sint_2 (k : (Int) × ((Int) × (((HL [(.slice (.int .i64)), (.slice (.int .i64))] → Option (Int))) × (Int)))) (v : (Int) × (List (List (Int)))) : Option (List (List (Int))) := iter (fun v => (S_slices_insertionSortCmpFunc_Sint_2 k v).ev) v
noncomputable def DL_slices_insertionSortCmpFunc_Sint_2 : LD where
 head := { acts := [], S := { slots := [0, 1, 2, 3, 8, 9], sh := (.cons (.arr 64) (.cons (.dat (.int .i64)) (.cons (.dat (.int .i64)) (.cons (.clo [(.slice (.int .i64)), (.slice (.int .i64))] (.int .i64)) (.cons (.dat (.int .i64)) (.cons (.dat (.int .i64)) .nil)))))), obs := [(64, .arr 22 (.slice (.int .i64)))] } }
 exits := [(2, { acts := [], S := { slots := [0, 1, 2, 3, 8], sh := (.cons (.arr 64) (.cons (.dat (.int .i64)) (.cons (.dat (.int .i64)) (.cons (.clo [(.slice (.int .i64)), (.slice (.int .i64))] (.int .i64)) (.cons (.dat (.int .i64)) .nil))))), obs := [(64, .arr 22 (.slice (.int .i64)))] } })]
 rets := { acts := [], S := { slots := [], sh := .nil, obs := [] } }
 K := (Int) × ((Int) × (((HL [(.slice (.int .i64)), (.slice (.int .i64))] → Option (Int))) × (Int)))
 V := (Int) × (List (List (Int)))
 R := List (List (Int))
 join := fun k v => (((), (k.1, (k.2.1, (k.2.2.1, (k.2.2.2, (v.1, ())))))), (v.2, ()))
 sk := fun t => (t.1.2.1, (t.1.2.2.1, (t.1.2.2.2.1, t.1.2.2.2.2.1)))
 sv := fun t => (t.1.2.2.2.2.2.1, t.2.1)
 step := S_slices_insertionSortCmpFunc_Sint_2
 leaf := fun k r => .l (.exit 2 (mkSt ({ slots := [0, 1, 2, 3, 8], sh := (.cons (.arr 64) (.cons (.dat (.int .i64)) (.cons (.dat (.int .i64)) (.cons (.clo [(.slice (.int .i64)), (.slice (.int .i64))] (.int .i64)) (.cons (.dat (.int .i64)) .nil))))), obs := [(64, .arr 22 (.slice (.int .i64)))] }) (((), (k.1, (k.2.1, (k.2.2.1, (k.2.2.2, ()))))), (r, ()))))
noncomputable def S_slices_insertionSortCmpFunc_Sint_0 (k : (Int) × ((Int) × ((HL [(.slice (.int .i64)), (.slice (.int .i64))] → Option (Int))))) (v : (Int) × (List (List (Int)))) : Tr (((Int) × (List (List (Int)))) ⊕ (List (List (Int)))) :=
 .t (decide (v.1 < k.2.1))
  (.c (List (List (Int))) (L_slices_insertionSortCmpFunc_Sint_2 (k.1, (k.2.1, (k.2.2, v.1))) (v.1, v.2)) fun r18_ =>
   .l (.inl ((IntKind.wrap .i64 (v.1 + (1 : Int))), r18_)))
  (.l (.inr v.2))
noncomputable def L_slices_insertionSortCmpFunc_Sint_0 (k : (Int) × ((Int) × ((HL [(.slice (.int .i64)), (.slice (.int .i64))] → Option (Int))))) (v : (Int) × (List (List (Int)))) : Option (List (List (Int))) := iter (fun v => (S_slices_insertionSortCmpFunc_Sint_0 k v).ev) v
noncomputable def DL_slices_insertionSortCmpFunc_Sint_0 : LD where
 head := { acts := [], S := { slots := [0, 1, 2, 3, 8], sh := (.cons (.arr 64) (.cons (.dat (.int .i64)) (.cons (.dat (.int .i64)) (.cons (.clo [(.slice (.int .i64)), (.slice (.int .i64))] (.int .i64)) (.cons (.dat (.int .i64)) .nil))))), obs := [(64, .arr 22 (.slice (.int .i64)))] } }
 exits := [(0, { acts := [], S := { slots := [0], sh := (.cons (.arr 64) .nil), obs := [(64, .arr 22 (.slice (.int .i64)))] } })]
 rets := { acts := [], S := { slots := [], sh := .nil, obs := [] } }
 K := (Int) × ((Int) × ((HL [(.slice (.int .i64)), (.slice (.int .i64))] → Option (Int))))
 V := (Int) × (List (List (Int)))
 R := List (List (Int))
 join := fun k v => (((), (k.1, (k.2.1, (k.2.2, (v.1, ()))))), (v.2, ()))
 sk := fun t => (t.1.2.1, (t.1.2.2.1, t.1.2.2.2.1))
 sv := fun t => (t.1.2.2.2.2.1, t.2.1)
 step := S_slices_insertionSortCmpFunc_Sint_0
 leaf := fun _ r => .l (.exit 0 (mkSt ({ slots := [0], sh := (.cons (.arr 64) .nil), obs := [(64, .arr 22 (.slice (.int .i64)))] }) (((), ()), (r, ()))))
noncomputable def T_slices_insertionSortCmpFunc_Sint (a2_ : Int) (a3_ : Int) (a4_ : (HL [(.slice (.int .i64)), (.slice (.int .i64))] → Option (Int))) (a1_ : List (List (Int))) : Tr (List (List (Int))) :=
 .c (List (List (Int))) (L_slices_insertionSortCmpFunc_Sint_0 (a2_, (a3_, a4_)) ((IntKind.wrap .i64 (a2_ + (1 : Int))), a1_)) fun r20_ =>
 .l r20_
noncomputable def F_slices_insertionSortCmpFunc_Sint (a2_ : Int) (a3_ : Int) (a4_ : (HL [(.slice (.int .i64)), (.slice (.int .i64))] → Option (Int))) (a1_ : List (List (Int))) : Option (List (List (Int))) := (T_slices_insertionSortCmpFunc_Sint a2_ a3_ a4_ a1_).ev
noncomputable def A_slices_insertionSortCmpFunc_Sint : Sh := (.cons (.arr 64) (.cons (.dat (.int .i64)) (.cons (.dat (.int .i64)) (.cons (.clo [(.slice (.int .i64)), (.slice (.int .i64))] (.int .i64)) .nil))))
noncomputable def I_slices_insertionSortCmpFunc_Sint : List (Nat × OSh) := [(64, .arr 22 (.slice (.int .i64)))]
noncomputable def K_slices_insertionSortCmpFunc_Sint : RetK := { acts := [], res := [], sh := .nil, obs := [(64, .arr 22 (.slice (.int .i64)))], pins := [(0, 0, 64)] }
noncomputable def D_slices_insertionSortCmpFunc_Sint : FD where
 A := A_slices_insertionSortCmpFunc_Sint
 ins := I_slices_insertionSortCmpFunc_Sint
 lend := [.arg 0]
 R := List (List (Int))
 F := fun x => F_slices_insertionSortCmpFunc_Sint x.1.2.1 x.1.2.2.1 x.1.2.2.2.1 x.2.1
 emb := fun r => ([], [(64, .arr 22 (.slice (.int .i64)) r)])
noncomputable def E_slices_insertionSortCmpFunc_Sint : Env := envOf []
noncomputable def Z_slices_insertionSortCmpFunc_Sint : Nat → Nat → List Nat := fun _ _ => []
noncomputable def O_slices_insertionSortCmpFunc_Sint : List (Nat × LD) := [(2, DL_slices_insertionSortCmpFunc_Sint_2), (0, DL_slices_insertionSortCmpFunc_Sint_0)]
noncomputable def C_slices_insertionSortCmpFunc_Sint : Code := (f205.body).getD .skip
noncomputable def T_slices_order2CmpFunc_Sint (a1_ : List (List (Int))) (a2_ : Int) (a3_ : Int) (a5_ : (HL [(.slice (.int .i64)), (.slice (.int .i64))] → Option (Int))) (a4_ : Int) : Tr ((Int) × ((Int) × (Int))) :=
 .g (inR a3_ (List.length a1_)) <|
 .g (inR a2_ (List.length a1_)) <|
 .c (Int) (a5_ ((List.getD a1_ (Int.toNat a3_) ([] : List (Int))), ((List.getD a1_ (Int.toNat a2_) ([] : List (Int))), ()))) fun r1_ =>
 .t (decide (r1_ < (0 : Int)))
  (.l (a3_, (a2_, (IntKind.wrap .i64 (a4_ + (1 : Int))))))
  (.l (a2_, (a3_, a4_)))
noncomputable def F_slices_order2CmpFunc_Sint (a1_ : List (List (Int))) (a2_ : Int) (a3_ : Int) (a5_ : (HL [(.slice (.int .i64)), (.slice (.int .i64))] → Option (Int))) (a4_ : Int) : Option ((Int) × ((Int) × (Int))) := (T_slices_order2CmpFunc_Sint a1_ a2_ a3_ a5_ a4_).ev
noncomputable def A_slices_order2CmpFunc_Sint : Sh := (.cons (.dat (.slice (.slice (.int .i64)))) (.cons (.dat (.int .i64)) (.cons (.dat (.int .i64)) (.cons (.box 64 0) (.cons (.clo [(.slice (.int .i64)), (.slice (.int .i64))] (.int .i64)) .nil)))))
noncomputable def I_slices_order2CmpFunc_Sint : List (Nat × OSh) := [(64, .cells (.cons (.dat (.int .i64)) .nil))]
noncomputable def K_slices_order2CmpFunc_Sint : RetK := { acts := [], res := [.tmp 10, .tmp 11], sh := (.cons (.dat (.int .i64)) (.cons (.dat (.int .i64)) .nil)), obs := [(64, .cells (.cons (.dat (.int .i64)) .nil))], pins := [(3, 0, 64)] }
noncomputable def D_slices_order2CmpFunc_Sint : FD where
 A := A_slices_order2CmpFunc_Sint
 ins := I_slices_order2CmpFunc_Sint
 lend := [.arg 3]
 R := (Int) × ((Int) × (Int))
 F := fun x => F_slices_order2CmpFunc_Sint x.1.1 x.1.2.1 x.1.2.2.1 x.1.2.2.2.2.1 x.2.1.1
 emb := fun r => ([.dat (.int .i64) r.1, .dat (.int .i64) r.2.1], [(64, .cells [.dat (.int .i64) r.2.2])])
noncomputable def E_slices_order2CmpFunc_Sint : Env := envOf []
noncomputable def Z_slices_order2CmpFunc_Sint : Nat → Nat → List Nat := fun _ _ => []
noncomputable def O_slices_order2CmpFunc_Sint : List (Nat × LD) := []
noncomputable def C_slices_order2CmpFunc_Sint : Code := (f233.body).getD .skip
noncomputable def T_slices_medianCmpFunc_Sint (a1_ : List (List (Int))) (a2_ : Int) (a3_ : Int) (a4_ : Int) (a6_ : (HL [(.slice (.int .i64)), (.slice (.int .i64))] → Option (Int))) (a5_ : Int) : Tr ((Int) × (Int)) :=
 .c ((Int) × ((Int) × (Int))) (F_slices_order2CmpFunc_Sint a1_ a2_ a3_ a6_ a5_) fun r1_ =>
 .c ((Int) × ((Int) × (Int))) (F_slices_order2CmpFunc_Sint a1_ r1_.2.1 a4_ a6_ r1_.2.2) fun r2_ =>
 .c ((Int) × ((Int) × (Int))) (F_slices_order2CmpFunc_Sint a1_ r1_.1 r2_.1 a6_ r2_.2.2) fun r3_ =>
 .l (r3_.2.1, r3_.2.2)
noncomputable def F_slices_medianCmpFunc_Sint (a1_ : List (List (Int))) (a2_ : Int) (a3_ : Int) (a4_ : Int) (a6_ : (HL [(.slice (.int .i64)), (.slice (.int .i64))] → Option (Int))) (a5_ : Int) : Option ((Int) × (Int)) := (T_slices_medianCmpFunc_Sint a1_ a2_ a3_ a4_ a6_ a5_).ev
noncomputable def A_slices_medianCmpFunc_Sint : Sh := (.cons (.dat (.slice (.slice (.int .i64)))) (.cons (.dat (.int .i64)) (.cons (.dat (.int .i64)) (.cons (.dat (.int .i64)) (.cons (.box 64 0) (.cons (.clo [(.slice (.int .i64)), (.slice (.int .i64))] (.int .i64)) .nil))))))
noncomputable def I_slices_medianCmpFunc_Sint : List (Nat × OSh) := [(64, .cells (.cons (.dat (.int .i64)) .nil))]
noncomputable def K_slices_medianCmpFunc_Sint : RetK := { acts := [], res := [.tmp 12], sh := (.cons (.dat (.int .i64)) .nil), obs := [(64, .cells (.cons (.dat (.int .i64)) .nil))], pins := [(4, 0, 64)] }
noncomputable def D_slices_medianCmpFunc_Sint : FD where
 A := A_slices_medianCmpFunc_Sint
 ins := I_slices_medianCmpFunc_Sint
 lend := [.arg 4]
 R := (Int) × (Int)
 F := fun x => F_slices_medianCmpFunc_Sint x.1.1 x.1.2.1 x.1.2.2.1 x.1.2.2.2.1 x.1.2.2.2.2.2.1 x.2.1.1
 emb := fun r => ([.dat (.int .i64) r.1], [(64, .cells [.dat (.int .i64) r.2])])
noncomputable def E_slices_medianCmpFunc_Sint : Env := envOf [(233, D_slices_order2CmpFunc_Sint)]
noncomputable def Z_slices_medianCmpFunc_Sint : Nat → Nat → List Nat := fun _ _ => []
noncomputable def O_slices_medianCmpFunc_Sint : List (Nat × LD) := []
noncomputable def C_slices_medianCmpFunc_Sint : Code := (f226.body).getD .skip
noncomputable def T_slices_medianAdjacentCmpFunc_Sint (a1_ : List (List (Int))) (a2_ : Int) (a4_ : (HL [(.slice (.int .i64)), (.slice (.int .i64))] → Option (Int))) (a3_ : Int) : Tr ((Int) × (Int)) :=
 .c ((Int) × (Int)) (F_slices_medianCmpFunc_Sint a1_ (IntKind.wrap .i64 (a2_ - (1 : Int))) a2_ (IntKind.wrap .i64 (a2_ + (1 : Int))) a4_ a3_) fun r1_ =>
 .l (r1_.1, r1_.2)
noncomputable def F_slices_medianAdjacentCmpFunc_Sint (a1_ : List (List (Int))) (a2_ : Int) (a4_ : (HL [(.slice (.int .i64)), (.slice (.int .i64))] → Option (Int))) (a3_ : Int) : Option ((Int) × (Int)) := (T_slices_medianAdjacentCmpFunc_Sint a1_ a2_ a4_ a3_).ev
noncomputable def A_slices_medianAdjacentCmpFunc_Sint : Sh := (.cons (.dat (.slice (.slice (.int .i64)))) (.cons (.dat (.int .i64)) (.cons (.box 64 0) (.cons (.clo [(.slice (.int .i64)), (.slice (.int .i64))] (.int .i64)) .nil))))
noncomputable def I_slices_medianAdjacentCmpFunc_Sint : List (Nat × OSh) := [(64, .cells (.cons (.dat (.int .i64)) .nil))]
noncomputable def K_slices_medianAdjacentCmpFunc_Sint : RetK := { acts := [], res := [.tmp 8], sh := (.cons (.dat (.int .i64)) .nil), obs := [(64, .cells (.cons (.dat (.int .i64)) .nil))], pins := [(2, 0, 64)] }
noncomputable def D_slices_medianAdjacentCmpFunc_Sint : FD where
 A := A_slices_medianAdjacentCmpFunc_Sint
 ins := I_slices_medianAdjacentCmpFunc_Sint
 lend := [.arg 2]
 R := (Int) × (Int)
 F := fun x => F_slices_medianAdjacentCmpFunc_Sint x.1.1 x.1.2.1 x.1.2.2.2.1 x.2.1.1
 emb := fun r => ([.dat (.int .i64) r.1], [(64, .cells [.dat (.int .i64) r.2])])
noncomputable def E_slices_medianAdjacentCmpFunc_Sint : Env := envOf [(226, D_slices_medianCmpFunc_Sint)]
noncomputable def Z_slices_medianAdjacentCmpFunc_Sint : Nat → Nat → List Nat := fun _ _ => []
noncomputable def O_slices_medianAdjacentCmpFunc_Sint : List (Nat × LD) := []
noncomputable def C_slices_medianAdjacentCmpFunc_Sint : Code := (f225.body).getD .skip
noncomputable def T_slices_choosePivotCmpFunc_Sint (a1_ : List (List (Int))) (a2_ : Int) (a3_ : Int) (a4_ : (HL [(.slice (.int .i64)), (.slice (.int .i64))] → Option (Int))) : Tr ((Int) × (Int)) :=
 .g (!decide ((4 : Int) = 0)) <|
 .g (!decide ((4 : Int) = 0)) <|
 .g (!decide ((4 : Int) = 0)) <|
 .t (decide ((8 : Int) ≤ (IntKind.wrap .i64 (a3_ - a2_))))
  (.t (decide ((50 : Int) ≤ (IntKind.wrap .i64 (a3_ - a2_))))
    (.c ((Int) × (Int)) (F_slices_medianAdjacentCmpFunc_Sint a1_ (IntKind.wrap .i64 (a2_ + (IntKind.wrap .i64 ((IntKind.wrap .i64 (Int.tdiv (IntKind.wrap .i64 (a3_ - a2_)) (4 : Int))) * (1 : Int))))) a4_ (0 : Int)) fun r1_ =>
     .c ((Int) × (Int)) (F_slices_medianAdjacentCmpFunc_Sint a1_ (IntKind.wrap .i64 (a2_ + (IntKind.wrap .i64 ((IntKind.wrap .i64 (Int.tdiv (IntKind.wrap .i64 (a3_ - a2_)) (4 : Int))) * (2 : Int))))) a4_ r1_.2) fun r2_ =>
     .c ((Int) × (Int)) (F_slices_medianAdjacentCmpFunc_Sint a1_ (IntKind.wrap .i64 (a2_ + (IntKind.wrap .i64 ((IntKind.wrap .i64 (Int.tdiv (IntKind.wrap .i64 (a3_ - a2_)) (4 : Int))) * (3 : Int))))) a4_ r2_.2) fun r3_ =>
     .c ((Int) × (Int)) (F_slices_medianCmpFunc_Sint a1_ r1_.1 r2_.1 r3_.1 a4_ r3_.2) fun r4_ =>
     .t (r4_.2 == (0 : Int))
      (.l (r4_.1, (1 : Int)))
      (.t (r4_.2 == (12 : Int))
        (.l (r4_.1, (2 : Int)))
        (.l (r4_.1, (0 : Int)))))
    (.c ((Int) × (Int)) (F_slices_medianCmpFunc_Sint a1_ (IntKind.wrap .i64 (a2_ + (IntKind.wrap .i64 ((IntKind.wrap .i64 (Int.tdiv (IntKind.wrap .i64 (a3_ - a2_)) (4 : Int))) * (1 : Int))))) (IntKind.wrap .i64 (a2_ + (IntKind.wrap .i64 ((IntKind.wrap .i64 (Int.tdiv (IntKind.wrap .i64 (a3_ - a2_)) (4 : Int))) * (2 : Int))))) (IntKind.wrap .i64 (a2_ + (IntKind.wrap .i64 ((IntKind.wrap .i64 (Int.tdiv (IntKind.wrap .i64 (a3_ - a2_)) (4 : Int))) * (3 : Int))))) a4_ (0 : Int)) fun r5_ =>
     .t (r5_.2 == (0 : Int))
      (.l (r5_.1, (1 : Int)))
      (.t (r5_.2 == (12 : Int))
        (.l (r5_.1, (2 : Int)))
        (.l (r5_.1, (0 : Int))))))
  (.t ((0 : Int) == (0 : Int))
    (.l ((IntKind.wrap .i64 (a2_ + (IntKind.wrap .i64 ((IntKind.wrap .i64 (Int.tdiv (IntKind.wrap .i64 (a3_ - a2_)) (4 : Int))) * (2 : Int))))), (1 : Int)))
    (.t ((0 : Int) == (12 : Int))
      (.l ((IntKind.wrap .i64 (a2_ + (IntKind.wrap .i64 ((IntKind.wrap .i64 (Int.tdiv (IntKind.wrap .i64 (a3_ - a2_)) (4 : Int))) * (2 : Int))))), (2 : Int)))
      (.l ((IntKind.wrap .i64 (a2_ + (IntKind.wrap .i64 ((IntKind.wrap .i64 (Int.tdiv (IntKind.wrap .i64 (a3_ - a2_)) (4 : Int))) * (2 : Int))))), (0 : Int)))))
noncomputable def F_slices_choosePivotCmpFunc_Sint (a1_ : List (List (Int))) (a2_ : Int) (a3_ : Int) (a4_ : (HL [(.slice (.int .i64)), (.slice (.int .i64))] → Option (Int))) : Option ((Int) × (Int)) := (T_slices_choosePivotCmpFunc_Sint a1_ a2_ a3_ a4_).ev
noncomputable def A_slices_choosePivotCmpFunc_Sint : Sh := (.cons (.dat (.slice (.slice (.int .i64)))) (.cons (.dat (.int .i64)) (.cons (.dat (.int .i64)) (.cons (.clo [(.slice (.int .i64)), (.slice (.int .i64))] (.int .i64)) .nil))))
noncomputable def I_slices_choosePivotCmpFunc_Sint : List (Nat × OSh) := []
noncomputable def K_slices_choosePivotCmpFunc_Sint : RetK := { acts := [], res := [.tmp 8, .tmp 9], sh := (.cons (.dat (.int .i64)) (.cons (.dat (.int .i64)) .nil)), obs := [], pins := [] }
noncomputable def D_slices_choosePivotCmpFunc_Sint : FD where
 A := A_slices_choosePivotCmpFunc_Sint
 ins := I_slices_choosePivotCmpFunc_Sint
 lend := []
 R := (Int) × (Int)
 F := fun x => F_slices_choosePivotCmpFunc_Sint x.1.1 x.1.2.1 x.1.2.2.1 x.1.2.2.2.1
 emb := fun r => ([.dat (.int .i64) r.1, .dat (.int .i64) r.2], [])
noncomputable def E_slices_choosePivotCmpFunc_Sint : Env := envOf [(225, D_slices_medianAdjacentCmpFunc_Sint), (226, D_slices_medianCmpFunc_Sint)]
noncomputable def Z_slices_choosePivotCmpFunc_Sint : Nat → Nat → List Nat := fun _ _ => []
noncomputable def O_slices_choosePivotCmpFunc_Sint : List (Nat × LD) := []
noncomputable def C_slices_choosePivotCmpFunc_Sint : Code := (f208.body).getD .skip
noncomputable def S_slices_partitionCmpFunc_Sint_0 (k : (Int) × (((HL [(.slice (.int .i64)), (.slice (.int .i64))] → Option (Int))) × ((Int) × (List (List (Int)))))) (v : Int) : Tr ((Int) ⊕ (Int)) :=
 .t (decide (v ≤ k.2.2.1))
  (.g (inR v (List.length k.2.2.2)) <|
   .g (decide ((Int.toNat v) < List.length k.2.2.2)) <|
   .g (inR k.1 (List.length k.2.2.2)) <|
   .g (decide ((Int.toNat k.1) < List.length k.2.2.2)) <|
   .c (Int) (k.2.1 ((List.getD k.2.2.2 (Int.toNat v) ([] : List (Int))), ((List.getD k.2.2.2 (Int.toNat k.1) ([] : List (Int))), ()))) fun r6_ =>
   .t (decide (r6_ < (0 : Int)))
    (.l (.inl (IntKind.wrap .i64 (v + (1 : Int)))))
    (.l (.inr v)))
  (.l (.inr v))
noncomputable def L_slices_partitionCmpFunc_Sint_0 (k : (Int) × (((HL [(.slice (.int .i64)), (.slice (.int .i64))] → Option (Int))) × ((Int) × (List (List (Int)))))) (v : Int) : Option (Int) := iter (fun v => (S_slices_partitionCmpFunc_Sint_0 k v).ev) v
noncomputable def DL_slices_partitionCmpFunc_Sint_0 : LD where
 head := { acts := [], S := { slots := [0, 1, 4, 12, 13], sh := (.cons (.arr 64) (.cons (.dat (.int .i64)) (.cons (.clo [(.slice (.int .i64)), (.slice (.int .i64))] (.int .i64)) (.cons (.dat (.int .i64)) (.cons (.dat (.int .i64)) .nil))))), obs := [(64, .arr 22 (.slice (.int .i64)))] } }
 exits := [(0, { acts := [], S := { slots := [0, 1, 4, 12, 13], sh := (.cons (.arr 64) (.cons (.dat (.int .i64)) (.cons (.clo [(.slice (.int .i64)), (.slice (.int .i64))] (.int .i64)) (.cons (.dat (.int .i64)) (.cons (.dat (.int .i64)) .nil))))), obs := [(64, .arr 22 (.slice (.int .i64)))] } })]
 rets := { acts := [], S := { slots := [], sh := .nil, obs := [] } }
 K := (Int) × (((HL [(.slice (.int .i64)), (.slice (.int .i64))] → Option (Int))) × ((Int) × (List (List (Int)))))
 V := Int
 R := Int
 join := fun k v => (((), (k.1, (k.2.1, (v, (k.2.2.1, ()))))), (k.2.2.2, ()))
 sk := fun t => (t.1.2.1, (t.1.2.2.1, (t.1.2.2.2.2.1, t.2.1)))
 sv := fun t => t.1.2.2.2.1
 step := S_slices_partitionCmpFunc_Sint_0
 leaf := fun k r => .l (.exit 0 (mkSt ({ slots := [0, 1, 4, 12, 13], sh := (.cons (.arr 64) (.cons (.dat (.int .i64)) (.cons (.clo [(.slice (.int .i64)), (.slice (.int .i64))] (.int .i64)) (.cons (.dat (.int .i64)) (.cons (.dat (.int .i64)) .nil))))), obs := [(64, .arr 22 (.slice (.int .i64)))] }) (((), (k.1, (k.2.1, (r, (k.2.2.1, ()))))), (k.2.2.2, ()))))
noncomputable def S_slices_partitionCmpFunc_Sint_2 (k : (Int) × (((HL [(.slice (.int .i64)), (.slice (.int .i64))] → Option (Int))) × ((Int) × (List (List (Int)))))) (v : Int) : Tr ((Int) ⊕ (Int)) :=
 .t (decide (k.2.2.1 ≤ v))
  (.g (inR v (List.length k.2.2.2)) <|
   .g (decide ((Int.toNat v) < List.length k.2.2.2)) <|
   .g (inR k.1 (List.length k.2.2.2)) <|
   .g (decide ((Int.toNat k.1) < List.length k.2.2.2)) <|
   .c (Int) (k.2.1 ((List.getD k.2.2.2 (Int.toNat v) ([] : List (Int))), ((List.getD k.2.2.2 (Int.toNat k.1) ([] : List (Int))), ()))) fun r18_ =>
   .t (!(decide (r18_ < (0 : Int))))
    (.l (.inl (IntKind.wrap .i64 (v - (1 : Int)))))
    (.l (.inr v)))
  (.l (.inr v))
noncomputable def L_slices_partitionCmpFunc_Sint_2 (k : (Int) × (((HL [(.slice (.int .i64)), (.slice (.int .i64))] → Option (Int))) × ((Int) × (List (List (Int)))))) (v : Int) : Option (Int) := iter (fun v => (S_slices_partitionCmpFunc_Sint_2 k v).ev) v
noncomputable def DL_slices_partitionCmpFunc_Sint_2 : LD where
 head := { acts := [], S := { slots := [0, 1, 4, 12, 13], sh := (.cons (.arr 64) (.cons (.dat (.int .i64)) (.cons (.clo [(.slice (.int .i64)), (.slice (.int .i64))] (.int .i64)) (.cons (.dat (.int .i64)) (.cons (.dat (.int .i64)) .nil))))), obs := [(64, .arr 22 (.slice (.int .i64)))] } }
 exits := [(2, { acts := [], S := { slots := [0, 1, 4, 12, 13], sh := (.cons (.arr 64) (.cons (.dat (.int .i64)) (.cons (.clo [(.slice (.int .i64)), (.slice (.int .i64))] (.int .i64)) (.cons (.dat (.int .i64)) (.cons (.dat (.int .i64)) .nil))))), obs := [(64, .arr 22 (.slice (.int .i64)))] } })]
 rets := { acts := [], S := { slots := [], sh := .nil, obs := [] } }
 K := (Int) × (((HL [(.slice (.int .i64)), (.slice (.int .i64))] → Option (Int))) × ((Int) × (List (List (Int)))))
 V := Int
 R := Int
 join := fun k v => (((), (k.1, (k.2.1, (k.2.2.1, (v, ()))))), (k.2.2.2, ()))
 sk := fun t => (t.1.2.1, (t.1.2.2.1, (t.1.2.2.2.1, t.2.1)))
 sv := fun t => t.1.2.2.2.2.1
 step := S_slices_partitionCmpFunc_Sint_2
 leaf := fun k r => .l (.exit 2 (mkSt ({ slots := [0, 1, 4, 12, 13], sh := (.cons (.arr 64) (.cons (.dat (.int .i64)) (.cons (.clo [(.slice (.int .i64)), (.slice (.int .i64))] (.int .i64)) (.cons (.dat (.int .i64)) (.cons (.dat (.int .i64)) .nil))))), obs := [(64, .arr 22 (.slice (.int .i64)))] }) (((), (k.1, (k.2.1, (k.2.2.1, (r, ()))))), (k.2.2.2, ()))))
noncomputable def S_slices_partitionCmpFunc_Sint_6 (k : (Int) × (((HL [(.slice (.int .i64)), (.slice (.int .i64))] → Option (Int))) × ((Int) × (List (List (Int)))))) (v : Int) : Tr ((Int) ⊕ (Int)) :=
 .t (decide (v ≤ k.2.2.1))
  (.g (inR v (List.length k.2.2.2)) <|
   .g (decide ((Int.toNat v) < List.length k.2.2.2)) <|
   .g (inR k.1 (List.length k.2.2.2)) <|
   .g (decide ((Int.toNat k.1) < List.length k.2.2.2)) <|
   .c (Int) (k.2.1 ((List.getD k.2.2.2 (Int.toNat v) ([] : List (Int))), ((List.getD k.2.2.2 (Int.toNat k.1) ([] : List (Int))), ()))) fun r35_ =>
   .t (decide (r35_ < (0 : Int)))
    (.l (.inl (IntKind.wrap .i64 (v + (1 : Int)))))
    (.l (.inr v)))
  (.l (.inr v))
noncomputable def L_slices_partitionCmpFunc_Sint_6 (k : (Int) × (((HL [(.slice (.int .i64)), (.slice (.int .i64))] → Option (Int))) × ((Int) × (List (List (Int)))))) (v : Int) : Option (Int) := iter (fun v => (S_slices_partitionCmpFunc_Sint_6 k v).ev) v
noncomputable def DL_slices_partitionCmpFunc_Sint_6 : LD where
 head := { acts := [], S := { slots := [0, 1, 4, 12, 13], sh := (.cons (.arr 64) (.cons (.dat (.int .i64)) (.cons (.clo [(.slice (.int .i64)), (.slice (.int .i64))] (.int .i64)) (.cons (.dat (.int .i64)) (.cons (.dat (.int .i64)) .nil))))), obs := [(64, .arr 22 (.slice (.int .i64)))] } }
 exits := [(6, { acts := [], S := { slots := [0, 1, 4, 12, 13], sh := (.cons (.arr 64) (.cons (.dat (.int .i64)) (.cons (.clo [(.slice (.int .i64)), (.slice (.int .i64))] (.int .i64)) (.cons (.dat (.int .i64)) (.cons (.dat (.int .i64)) .nil))))), obs := [(64, .arr 22 (.slice (.int .i64)))] } })]
 rets := { acts := [], S := { slots := [], sh := .nil, obs := [] } }
 K := (Int) × (((HL [(.slice (.int .i64)), (.slice (.int .i64))] → Option (Int))) × ((Int) × (List (List (Int)))))
 V := Int
 R := Int
 join := fun k v => (((), (k.1, (k.2.1, (v, (k.2.2.1, ()))))), (k.2.2.2, ()))
 sk := fun t => (t.1.2.1, (t.1.2.2.1, (t.1.2.2.2.2.1, t.2.1)))
 sv := fun t => t.1.2.2.2.1
 step := S_slices_partitionCmpFunc_Sint_6
 leaf := fun k r => .l (.exit 6 (mkSt ({ slots := [0, 1, 4, 12, 13], sh := (.cons (.arr 64) (.cons (.dat (.int .i64)) (.cons (.clo [(.slice (.int .i64)), (.slice (.int .i64))] (.int .i64)) (.cons (.dat (.int .i64)) (.cons (.dat (.int .i64)) .nil))))), obs := [(64, .arr 22 (.slice (.int .i64)))] }) (((), (k.1, (k.2.1, (r, (k.2.2.1, ()))))), (k.2.2.2, ()))))
noncomputable def S_slices_partitionCmpFunc_Sint_8 (k : (Int) × (((HL [(.slice (.int .i64)), (.slice (.int .i64))] → Option (Int))) × ((Int) × (List (List (Int)))))) (v : Int) : Tr ((Int) ⊕ (Int)) :=
 .t (decide (k.2.2.1 ≤ v))
  (.g (inR v (List.length k.2.2.2)) <|
   .g (decide ((Int.toNat v) < List.length k.2.2.2)) <|
   .g (inR k.1 (List.length k.2.2.2)) <|
   .g (decide ((Int.toNat k.1) < List.length k.2.2.2)) <|
   .c (Int) (k.2.1 ((List.getD k.2.2.2 (Int.toNat v) ([] : List (Int))), ((List.getD k.2.2.2 (Int.toNat k.1) ([] : List (Int))), ()))) fun r47_ =>
   .t (!(decide (r47_ < (0 : Int))))
    (.l (.inl (IntKind.wrap .i64 (v - (1 : Int)))))
    (.l (.inr v)))
  (.l (.inr v))
noncomputable def L_slices_partitionCmpFunc_Sint_8 (k : (Int) × (((HL [(.slice (.int .i64)), (.slice (.int .i64))] → Option (Int))) × ((Int) × (List (List (Int)))))) (v : Int) : Option (Int) := iter (fun v => (S_slices_partitionCmpFunc_Sint_8 k v).ev) v
noncomputable def DL_slices_partitionCmpFunc_Sint_8 : LD where
 head := { acts := [], S := { slots := [0, 1, 4, 12, 13], sh := (.cons (.arr 64) (.cons (.dat (.int .i64)) (.cons (.clo [(.slice (.int .i64)), (.slice (.int .i64))] (.int .i64)) (.cons (.dat (.int .i64)) (.cons (.dat (.int .i64)) .nil))))), obs := [(64, .arr 22 (.slice (.int .i64)))] } }
 exits := [(8, { acts := [], S := { slots := [0, 1, 4, 12, 13], sh := (.cons (.arr 64) (.cons (.dat (.int .i64)) (.cons (.clo [(.slice (.int .i64)), (.slice (.int .i64))] (.int .i64)) (.cons (.dat (.int .i64)) (.cons (.dat (.int .i64)) .nil))))), obs := [(64, .arr 22 (.slice (.int .i64)))] } })]
 rets := { acts := [], S := { slots := [], sh := .nil, obs := [] } }
 K := (Int) × (((HL [(.slice (.int .i64)), (.slice (.int .i64))] → Option (Int))) × ((Int) × (List (List (Int)))))
 V := Int
 R := Int
 join := fun k v => (((), (k.1, (k.2.1, (k.2.2.1, (v, ()))))), (k.2.2.2, ()))
 sk := fun t => (t.1.2.1, (t.1.2.2.1, (t.1.2.2.2.1, t.2.1)))
 sv := fun t => t.1.2.2.2.2.1
 step := S_slices_partitionCmpFunc_Sint_8
 leaf := fun k r => .l (.exit 8 (mkSt ({ slots := [0, 1, 4, 12, 13], sh := (.cons (.arr 64) (.cons (.dat (.int .i64)) (.cons (.clo [(.slice (.int .i64)), (.slice (.int .i64))] (.int .i64)) (.cons (.dat (.int .i64)) (.cons (.dat (.int .i64)) .nil))))), obs := [(64, .arr 22 (.slice (.int .i64)))] }) (((), (k.1, (k.2.1, (k.2.2.1, (r, ()))))), (k.2.2.2, ()))))
noncomputable def S_slices_partitionCmpFunc_Sint_4 (k : (Int) × ((HL [(.slice (.int .i64)), (.slice (.int .i64))] → Option (Int)))) (v : (Int) × ((Int) × (List (List (Int))))) : Tr (((Int) × ((Int) × (List (List (Int))))) ⊕ ((Int) × (List (List (Int))))) :=
 .c (Int) (L_slices_partitionCmpFunc_Sint_6 (k.1, (k.2, (v.2.1, v.2.2))) v.1) fun r41_ =>
 .c (Int) (L_slices_partitionCmpFunc_Sint_8 (k.1, (k.2, (r41_, v.2.2))) v.2.1) fun r53_ =>
 .t (decide (r53_ < r41_))
  (.l (.inr (r53_, v.2.2)))
  (.g (inR r53_ (List.length v.2.2)) <|
   .g (decide ((Int.toNat r53_) < List.length v.2.2)) <|
   .g (inR r41_ (List.length v.2.2)) <|
   .g (decide ((Int.toNat r41_) < List.length v.2.2)) <|
   .g (inR r41_ (List.length v.2.2)) <|
   .g (decide ((Int.toNat r41_) < List.length v.2.2)) <|
   .g (inR r53_ (List.length (List.set v.2.2 (Int.toNat r41_) (List.getD v.2.2 (Int.toNat r53_) ([] : List (Int)))))) <|
   .g (decide ((Int.toNat r53_) < List.length (List.set v.2.2 (Int.toNat r41_) (List.getD v.2.2 (Int.toNat r53_) ([] : List (Int)))))) <|
   .l (.inl ((IntKind.wrap .i64 (r41_ + (1 : Int))), ((IntKind.wrap .i64 (r53_ - (1 : Int))), (List.set (List.set v.2.2 (Int.toNat r41_) (List.getD v.2.2 (Int.toNat r53_) ([] : List (Int)))) (Int.toNat r53_) (List.getD v.2.2 (Int.toNat r41_) ([] : List (Int))))))))
noncomputable def L_slices_partitionCmpFunc_Sint_4 (k : (Int) × ((HL [(.slice (.int .i64)), (.slice (.int .i64))] → Option (Int)))) (v : (Int) × ((Int) × (List (List (Int))))) : Option ((Int) × (List (List (Int)))) := iter (fun v => (S_slices_partitionCmpFunc_Sint_4 k v).ev) v
noncomputable def DL_slices_partitionCmpFunc_Sint_4 : LD where
 head := { acts := [], S := { slots := [0, 1, 4, 12, 13], sh := (.cons (.arr 64) (.cons (.dat (.int .i64)) (.cons (.clo [(.slice (.int .i64)), (.slice (.int .i64))] (.int .i64)) (.cons (.dat (.int .i64)) (.cons (.dat (.int .i64)) .nil))))), obs := [(64, .arr 22 (.slice (.int .i64)))] } }
 exits := [(4, { acts := [], S := { slots := [0, 1, 13], sh := (.cons (.arr 64) (.cons (.dat (.int .i64)) (.cons (.dat (.int .i64)) .nil))), obs := [(64, .arr 22 (.slice (.int .i64)))] } })]
 rets := { acts := [], S := { slots := [], sh := .nil, obs := [] } }
 K := (Int) × ((HL [(.slice (.int .i64)), (.slice (.int .i64))] → Option (Int)))
 V := (Int) × ((Int) × (List (List (Int))))
 R := (Int) × (List (List (Int)))
 join := fun k v => (((), (k.1, (k.2, (v.1, (v.2.1, ()))))), (v.2.2, ()))
 sk := fun t => (t.1.2.1, t.1.2.2.1)
 sv := fun t => (t.1.2.2.2.1, (t.1.2.2.2.2.1, t.2.1))
 step := S_slices_partitionCmpFunc_Sint_4
 leaf := fun k r => .l (.exit 4 (mkSt ({ slots := [0, 1, 13], sh := (.cons (.arr 64) (.cons (.dat (.int .i64)) (.cons (.dat (.int .i64)) .nil))), obs := [(64, .arr 22 (.slice (.int .i64)))] }) (((), (k.1, (r.1, ()))), (r.2, ()))))
noncomputable def T_slices_partitionCmpFunc_Sint (a2_ : Int) (a3_ : Int) (a4_ : Int) (a5_ : (HL [(.slice (.int .i64)), (.slice (.int .i64))] → Option (Int))) (a1_ : List (List (Int))) : Tr ((Int) × ((Bool) × (List (List (Int))))) :=
 .g (inR a4_ (List.length a1_)) <|
 .g (decide ((Int.toNat a4_) < List.length a1_)) <|
 .g (inR a2_ (List.length a1_)) <|
 .g (decide ((Int.toNat a2_) < List.length a1_)) <|
 .g (inR a2_ (List.length a1_)) <|
 .g (decide ((Int.toNat a2_) < List.length a1_)) <|
 .g (inR a4_ (List.length (List.set a1_ (Int.toNat a2_) (List.getD a1_ (Int.toNat a4_) ([] : List (Int)))))) <|
 .g (decide ((Int.toNat a4_) < List.length (List.set a1_ (Int.toNat a2_) (List.getD a1_ (Int.toNat a4_) ([] : List (Int)))))) <|
 .c (Int) (L_slices_partitionCmpFunc_Sint_0 (a2_, (a5_, ((IntKind.wrap .i64 (a3_ - (1 : Int))), (List.set (List.set a1_ (Int.toNat a2_) (List.getD a1_ (Int.toNat a4_) ([] : List (Int)))) (Int.toNat a4_) (List.getD a1_ (Int.toNat a2_) ([] : List (Int))))))) (IntKind.wrap .i64 (a2_ + (1 : Int)))) fun r12_ =>
 .c (Int) (L_slices_partitionCmpFunc_Sint_2 (a2_, (a5_, (r12_, (List.set (List.set a1_ (Int.toNat a2_) (List.getD a1_ (Int.toNat a4_) ([] : List (Int)))) (Int.toNat a4_) (List.getD a1_ (Int.toNat a2_) ([] : List (Int))))))) (IntKind.wrap .i64 (a3_ - (1 : Int)))) fun r24_ =>
 .t (decide (r24_ < r12_))
  (.g (inR a2_ (List.length (List.set (List.set a1_ (Int.toNat a2_) (List.getD a1_ (Int.toNat a4_) ([] : List (Int)))) (Int.toNat a4_) (List.getD a1_ (Int.toNat a2_) ([] : List (Int)))))) <|
   .g (decide ((Int.toNat a2_) < List.length (List.set (List.set a1_ (Int.toNat a2_) (List.getD a1_ (Int.toNat a4_) ([] : List (Int)))) (Int.toNat a4_) (List.getD a1_ (Int.toNat a2_) ([] : List (Int)))))) <|
   .g (inR r24_ (List.length (List.set (List.set a1_ (Int.toNat a2_) (List.getD a1_ (Int.toNat a4_) ([] : List (Int)))) (Int.toNat a4_) (List.getD a1_ (Int.toNat a2_) ([] : List (Int)))))) <|
   .g (decide ((Int.toNat r24_) < List.length (List.set (List.set a1_ (Int.toNat a2_) (List.getD a1_ (Int.toNat a4_) ([] : List (Int)))) (Int.toNat a4_) (List.getD a1_ (Int.toNat a2_) ([] : List (Int)))))) <|
   .g (inR r24_ (List.length (List.set (List.set a1_ (Int.toNat a2_) (List.getD a1_ (Int.toNat a4_) ([] : List (Int)))) (Int.toNat a4_) (List.getD a1_ (Int.toNat a2_) ([] : List (Int)))))) <|
   .g (decide ((Int.toNat r24_) < List.length (List.set (List.set a1_ (Int.toNat a2_) (List.getD a1_ (Int.toNat a4_) ([] : List (Int)))) (Int.toNat a4_) (List.getD a1_ (Int.toNat a2_) ([] : List (Int)))))) <|
   .g (inR a2_ (List.length (List.set (List.set (List.set a1_ (Int.toNat a2_) (List.getD a1_ (Int.toNat a4_) ([] : List (Int)))) (Int.toNat a4_) (List.getD a1_ (Int.toNat a2_) ([] : List (Int)))) (Int.toNat r24_) (List.getD (List.set (List.set a1_ (Int.toNat a2_) (List.getD a1_ (Int.toNat a4_) ([] : List (Int)))) (Int.toNat a4_) (List.getD a1_ (Int.toNat a2_) ([] : List (Int)))) (Int.toNat a2_) ([] : List (Int)))))) <|
   .g (decide ((Int.toNat a2_) < List.length (List.set (List.set (List.set a1_ (Int.toNat a2_) (List.getD a1_ (Int.toNat a4_) ([] : List (Int)))) (Int.toNat a4_) (List.getD a1_ (Int.toNat a2_) ([] : List (Int)))) (Int.toNat r24_) (List.getD (List.set (List.set a1_ (Int.toNat a2_) (List.getD a1_ (Int.toNat a4_) ([] : List (Int)))) (Int.toNat a4_) (List.getD a1_ (Int.toNat a2_) ([] : List (Int)))) (Int.toNat a2_) ([] : List (Int)))))) <|
   .l (r24_, (true, (List.set (List.set (List.set (List.set a1_ (Int.toNat a2_) (List.getD a1_ (Int.toNat a4_) ([] : List (Int)))) (Int.toNat a4_) (List.getD a1_ (Int.toNat a2_) ([] : List (Int)))) (Int.toNat r24_) (List.getD (List.set (List.set a1_ (Int.toNat a2_) (List.getD a1_ (Int.toNat a4_) ([] : List (Int)))) (Int.toNat a4_) (List.getD a1_ (Int.toNat a2_) ([] : List (Int)))) (Int.toNat a2_) ([] : List (Int)))) (Int.toNat a2_) (List.getD (List.set (List.set a1_ (Int.toNat a2_) (List.getD a1_ (Int.toNat a4_) ([] : List (Int)))) (Int.toNat a4_) (List.getD a1_ (Int.toNat a2_) ([] : List (Int)))) (Int.toNat r24_) ([] : List (Int)))))))
  (.g (inR r24_ (List.length (List.set (List.set a1_ (Int.toNat a2_) (List.getD a1_ (Int.toNat a4_) ([] : List (Int)))) (Int.toNat a4_) (List.getD a1_ (Int.toNat a2_) ([] : List (Int)))))) <|
   .g (decide ((Int.toNat r24_) < List.length (List.set (List.set a1_ (Int.toNat a2_) (List.getD a1_ (Int.toNat a4_) ([] : List (Int)))) (Int.toNat a4_) (List.getD a1_ (Int.toNat a2_) ([] : List (Int)))))) <|
   .g (inR r12_ (List.length (List.set (List.set a1_ (Int.toNat a2_) (List.getD a1_ (Int.toNat a4_) ([] : List (Int)))) (Int.toNat a4_) (List.getD a1_ (Int.toNat a2_) ([] : List (Int)))))) <|
   .g (decide ((Int.toNat r12_) < List.length (List.set (List.set a1_ (Int.toNat a2_) (List.getD a1_ (Int.toNat a4_) ([] : List (Int)))) (Int.toNat a4_) (List.getD a1_ (Int.toNat a2_) ([] : List (Int)))))) <|
   .g (inR r12_ (List.length (List.set (List.set a1_ (Int.toNat a2_) (List.getD a1_ (Int.toNat a4_) ([] : List (Int)))) (Int.toNat a4_) (List.getD a1_ (Int.toNat a2_) ([] : List (Int)))))) <|
   .g (decide ((Int.toNat r12_) < List.length (List.set (List.set a1_ (Int.toNat a2_) (List.getD a1_ (Int.toNat a4_) ([] : List (Int)))) (Int.toNat a4_) (List.getD a1_ (Int.toNat a2_) ([] : List (Int)))))) <|
   .g (inR r24_ (List.length (List.set (List.set (List.set a1_ (Int.toNat a2_) (List.getD a1_ (Int.toNat a4_) ([] : List (Int)))) (Int.toNat a4_) (List.getD a1_ (Int.toNat a2_) ([] : List (Int)))) (Int.toNat r12_) (List.getD (List.set (List.set a1_ (Int.toNat a2_) (List.getD a1_ (Int.toNat a4_) ([] : List (Int)))) (Int.toNat a4_) (List.getD a1_ (Int.toNat a2_) ([] : List (Int)))) (Int.toNat r24_) ([] : List (Int)))))) <|
   .g (decide ((Int.toNat r24_) < List.length (List.set (List.set (List.set a1_ (Int.toNat a2_) (List.getD a1_ (Int.toNat a4_) ([] : List (Int)))) (Int.toNat a4_) (List.getD a1_ (Int.toNat a2_) ([] : List (Int)))) (Int.toNat r12_) (List.getD (List.set (List.set a1_ (Int.toNat a2_) (List.getD a1_ (Int.toNat a4_) ([] : List (Int)))) (Int.toNat a4_) (List.getD a1_ (Int.toNat a2_) ([] : List (Int)))) (Int.toNat r24_) ([] : List (Int)))))) <|
   .c ((Int) × (List (List (Int)))) (L_slices_partitionCmpFunc_Sint_4 (a2_, a5_) ((IntKind.wrap .i64 (r12_ + (1 : Int))), ((IntKind.wrap .i64 (r24_ - (1 : Int))), (List.set (List.set (List.set (List.set a1_ (Int.toNat a2_) (List.getD a1_ (Int.toNat a4_) ([] : List (Int)))) (Int.toNat a4_) (List.getD a1_ (Int.toNat a2_) ([] : List (Int)))) (Int.toNat r12_) (List.getD (List.set (List.set a1_ (Int.toNat a2_) (List.getD a1_ (Int.toNat a4_) ([] : List (Int)))) (Int.toNat a4_) (List.getD a1_ (Int.toNat a2_) ([] : List (Int)))) (Int.toNat r24_) ([] : List (Int)))) (Int.toNat r24_) (List.getD (List.set (List.set a1_ (Int.toNat a2_) (List.getD a1_ (Int.toNat a4_) ([] : List (Int)))) (Int.toNat a4_) (List.getD a1_ (Int.toNat a2_) ([] : List (Int)))) (Int.toNat r12_) ([] : List (Int))))))) fun r57_ =>
   .g (inR a2_ (List.length r57_.2)) <|
   .g (decide ((Int.toNat a2_) < List.length r57_.2)) <|
   .g (inR r57_.1 (List.length r57_.2)) <|
   .g (decide ((Int.toNat r57_.1) < List.length r57_.2)) <|
   .g (inR r57_.1 (List.length r57_.2)) <|
   .g (decide ((Int.toNat r57_.1) < List.length r57_.2)) <|
   .g (inR a2_ (List.length (List.set r57_.2 (Int.toNat r57_.1) (List.getD r57_.2 (Int.toNat a2_) ([] : List (Int)))))) <|
   .g (decide ((Int.toNat a2_) < List.length (List.set r57_.2 (Int.toNat r57_.1) (List.getD r57_.2 (Int.toNat a2_) ([] : List (Int)))))) <|
   .l (r57_.1, (false, (List.set (List.set r57_.2 (Int.toNat r57_.1) (List.getD r57_.2 (Int.toNat a2_) ([] : List (Int)))) (Int.toNat a2_) (List.getD r57_.2 (Int.toNat r57_.1) ([] : List (Int)))))))
noncomputable def F_slices_partitionCmpFunc_Sint (a2_ : Int) (a3_ : Int) (a4_ : Int) (a5_ : (HL [(.slice (.int .i64)), (.slice (.int .i64))] → Option (Int))) (a1_ : List (List (Int))) : Option ((Int) × ((Bool) × (List (List (Int))))) := (T_slices_partitionCmpFunc_Sint a2_ a3_ a4_ a5_ a1_).ev
noncomputable def A_slices_partitionCmpFunc_Sint : Sh := (.cons (.arr 64) (.cons (.dat (.int .i64)) (.cons (.dat (.int .i64)) (.cons (.dat (.int .i64)) (.cons (.clo [(.slice (.int .i64)), (.slice (.int .i64))] (.int .i64)) .nil)))))
noncomputable def I_slices_partitionCmpFunc_Sint : List (Nat × OSh) := [(64, .arr 22 (.slice (.int .i64)))]
noncomputable def K_slices_partitionCmpFunc_Sint : RetK := { acts := [], res := [.tmp 10, .tmp 11], sh := (.cons (.dat (.int .i64)) (.cons (.dat .bool) .nil)), obs := [(64, .arr 22 (.slice (.int .i64)))], pins := [(0, 0, 64)] }
noncomputable def D_slices_partitionCmpFunc_Sint : FD where
 A := A_slices_partitionCmpFunc_Sint
 ins := I_slices_partitionCmpFunc_Sint
 lend := [.arg 0]
 R := (Int) × ((Bool) × (List (List (Int))))
 F := fun x => F_slices_partitionCmpFunc_Sint x.1.2.1 x.1.2.2.1 x.1.2.2.2.1 x.1.2.2.2.2.1 x.2.1
 emb := fun r => ([.dat (.int .i64) r.1, .dat .bool r.2.1], [(64, .arr 22 (.slice (.int .i64)) r.2.2)])
noncomputable def E_slices_partitionCmpFunc_Sint : Env := envOf []
noncomputable def Z_slices_partitionCmpFunc_Sint : Nat → Nat → List Nat := fun _ _ => []
noncomputable def O_slices_partitionCmpFunc_Sint : List (Nat × LD) := [(0, DL_slices_partitionCmpFunc_Sint_0), (2, DL_slices_partitionCmpFunc_Sint_2), (6, DL_slices_partitionCmpFunc_Sint_6), (8, DL_slices_partitionCmpFunc_Sint_8), (4, DL_slices_partitionCmpFunc_Sint_4)]
noncomputable def C_slices_partitionCmpFunc_Sint : Code := (f212.body).getD .skip
noncomputable def S_slices_pdqsortCmpFunc_Sint_0 (rec_ : (Int) → (Int) → (Int) → ((HL [(.slice (.int .i64)), (.slice (.int .i64))] → Option (Int))) → (List (List (Int))) → Option (List (List (Int)))) (k : (Int) × ((HL [(.slice (.int .i64)), (.slice (.int .i64))] → Option (Int)))) (v : (Int) × ((Int) × ((Bool) × ((Bool) × (List (List (Int))))))) : Tr (((Int) × ((Int) × ((Bool) × ((Bool) × (List (List (Int))))))) ⊕ (List (List (Int)))) :=
 .t (decide ((IntKind.wrap .i64 (v.2.1 - v.1)) ≤ (12 : Int)))
  (.c (List (List (Int))) (F_slices_insertionSortCmpFunc_Sint v.1 v.2.1 k.2 v.2.2.2.2) fun r8_ =>
   .l (.inr r8_))
  (.t (k.1 == (0 : Int))
    (.f)
    (.t (!v.2.2.1)
      (.f)
      (.c ((Int) × (Int)) (F_slices_choosePivotCmpFunc_Sint v.2.2.2.2 v.1 v.2.1 k.2) fun r9_ =>
       .t (r9_.2 == (2 : Int))
        (.f)
        (.t v.2.2.1
          (.t v.2.2.2.1
            (.t (r9_.2 == (1 : Int))
              (.f)
              (.t (decide ((0 : Int) < v.1))
                (.g (inR (IntKind.wrap .i64 (v.1 - (1 : Int))) (List.length v.2.2.2.2)) <|
                 .g (decide ((Int.toNat (IntKind.wrap .i64 (v.1 - (1 : Int)))) < List.length v.2.2.2.2)) <|
                 .g (inR r9_.1 (List.length v.2.2.2.2)) <|
                 .g (decide ((Int.toNat r9_.1) < List.length v.2.2.2.2)) <|
                 .c (Int) (k.2 ((List.getD v.2.2.2.2 (Int.toNat (IntKind.wrap .i64 (v.1 - (1 : Int)))) ([] : List (Int))), ((List.getD v.2.2.2.2 (Int.toNat r9_.1) ([] : List (Int))), ()))) fun r10_ =>
                 .t (!(decide (r10_ < (0 : Int))))
                  (.f)
                  (.c ((Int) × ((Bool) × (List (List (Int))))) (F_slices_partitionCmpFunc_Sint v.1 v.2.1 r9_.1 k.2 v.2.2.2.2) fun r11_ =>
                   .g (!decide ((8 : Int) = 0)) <|
                   .t (decide ((IntKind.wrap .i64 (r11_.1 - v.1)) < (IntKind.wrap .i64 (v.2.1 - r11_.1))))
                    (.c (List (List (Int))) (rec_ v.1 r11_.1 k.1 k.2 r11_.2.2) fun r12_ =>
                     .l (.inl ((IntKind.wrap .i64 (r11_.1 + (1 : Int))), (v.2.1, ((decide ((IntKind.wrap .i64 (Int.tdiv (IntKind.wrap .i64 (v.2.1 - v.1)) (8 : Int))) ≤ (IntKind.wrap .i64 (r11_.1 - v.1)))), (r11_.2.1, r12_))))))
                    (.c (List (List (Int))) (rec_ (IntKind.wrap .i64 (r11_.1 + (1 : Int))) v.2.1 k.1 k.2 r11_.2.2) fun r13_ =>
                     .l (.inl (v.1, (r11_.1, ((decide ((IntKind.wrap .i64 (Int.tdiv (IntKind.wrap .i64 (v.2.1 - v.1)) (8 : Int))) ≤ (IntKind.wrap .i64 (v.2.1 - r11_.1)))), (r11_.2.1, r13_))))))))
                (.c ((Int) × ((Bool) × (List (List (Int))))) (F_slices_partitionCmpFunc_Sint v.1 v.2.1 r9_.1 k.2 v.2.2.2.2) fun r14_ =>
                 .g (!decide ((8 : Int) = 0)) <|
                 .t (decide ((IntKind.wrap .i64 (r14_.1 - v.1)) < (IntKind.wrap .i64 (v.2.1 - r14_.1))))
                  (.c (List (List (Int))) (rec_ v.1 r14_.1 k.1 k.2 r14_.2.2) fun r15_ =>
                   .l (.inl ((IntKind.wrap .i64 (r14_.1 + (1 : Int))), (v.2.1, ((decide ((IntKind.wrap .i64 (Int.tdiv (IntKind.wrap .i64 (v.2.1 - v.1)) (8 : Int))) ≤ (IntKind.wrap .i64 (r14_.1 - v.1)))), (r14_.2.1, r15_))))))
                  (.c (List (List (Int))) (rec_ (IntKind.wrap .i64 (r14_.1 + (1 : Int))) v.2.1 k.1 k.2 r14_.2.2) fun r16_ =>
                   .l (.inl (v.1, (r14_.1, ((decide ((IntKind.wrap .i64 (Int.tdiv (IntKind.wrap .i64 (v.2.1 - v.1)) (8 : Int))) ≤ (IntKind.wrap .i64 (v.2.1 - r14_.1)))), (r14_.2.1, r16_)))))))))
            (.t (decide ((0 : Int) < v.1))
              (.g (inR (IntKind.wrap .i64 (v.1 - (1 : Int))) (List.length v.2.2.2.2)) <|
               .g (decide ((Int.toNat (IntKind.wrap .i64 (v.1 - (1 : Int)))) < List.length v.2.2.2.2)) <|
               .g (inR r9_.1 (List.length v.2.2.2.2)) <|
               .g (decide ((Int.toNat r9_.1) < List.length v.2.2.2.2)) <|
               .c (Int) (k.2 ((List.getD v.2.2.2.2 (Int.toNat (IntKind.wrap .i64 (v.1 - (1 : Int)))) ([] : List (Int))), ((List.getD v.2.2.2.2 (Int.toNat r9_.1) ([] : List (Int))), ()))) fun r17_ =>
               .t (!(decide (r17_ < (0 : Int))))
                (.f)
                (.c ((Int) × ((Bool) × (List (List (Int))))) (F_slices_partitionCmpFunc_Sint v.1 v.2.1 r9_.1 k.2 v.2.2.2.2) fun r18_ =>
                 .g (!decide ((8 : Int) = 0)) <|
                 .t (decide ((IntKind.wrap .i64 (r18_.1 - v.1)) < (IntKind.wrap .i64 (v.2.1 - r18_.1))))
                  (.c (List (List (Int))) (rec_ v.1 r18_.1 k.1 k.2 r18_.2.2) fun r19_ =>
                   .l (.inl ((IntKind.wrap .i64 (r18_.1 + (1 : Int))), (v.2.1, ((decide ((IntKind.wrap .i64 (Int.tdiv (IntKind.wrap .i64 (v.2.1 - v.1)) (8 : Int))) ≤ (IntKind.wrap .i64 (r18_.1 - v.1)))), (r18_.2.1, r19_))))))
                  (.c (List (List (Int))) (rec_ (IntKind.wrap .i64 (r18_.1 + (1 : Int))) v.2.1 k.1 k.2 r18_.2.2) fun r20_ =>
                   .l (.inl (v.1, (r18_.1, ((decide ((IntKind.wrap .i64 (Int.tdiv (IntKind.wrap .i64 (v.2.1 - v.1)) (8 : Int))) ≤ (IntKind.wrap .i64 (v.2.1 - r18_.1)))), (r18_.2.1, r20_))))))))
              (.c ((Int) × ((Bool) × (List (List (Int))))) (F_slices_partitionCmpFunc_Sint v.1 v.2.1 r9_.1 k.2 v.2.2.2.2) fun r21_ =>
               .g (!decide ((8 : Int) = 0)) <|
               .t (decide ((IntKind.wrap .i64 (r21_.1 - v.1)) < (IntKind.wrap .i64 (v.2.1 - r21_.1))))
                (.c (List (List (Int))) (rec_ v.1 r21_.1 k.1 k.2 r21_.2.2) fun r22_ =>
                 .l (.inl ((IntKind.wrap .i64 (r21_.1 + (1 : Int))), (v.2.1, ((decide ((IntKind.wrap .i64 (Int.tdiv (IntKind.wrap .i64 (v.2.1 - v.1)) (8 : Int))) ≤ (IntKind.wrap .i64 (r21_.1 - v.1)))), (r21_.2.1, r22_))))))
                (.c (List (List (Int))) (rec_ (IntKind.wrap .i64 (r21_.1 + (1 : Int))) v.2.1 k.1 k.2 r21_.2.2) fun r23_ =>
                 .l (.inl (v.1, (r21_.1, ((decide ((IntKind.wrap .i64 (Int.tdiv (IntKind.wrap .i64 (v.2.1 - v.1)) (8 : Int))) ≤ (IntKind.wrap .i64 (v.2.1 - r21_.1)))), (r21_.2.1, r23_)))))))))
          (.t (decide ((0 : Int) < v.1))
            (.g (inR (IntKind.wrap .i64 (v.1 - (1 : Int))) (List.length v.2.2.2.2)) <|
             .g (decide ((Int.toNat (IntKind.wrap .i64 (v.1 - (1 : Int)))) < List.length v.2.2.2.2)) <|
             .g (inR r9_.1 (List.length v.2.2.2.2)) <|
             .g (decide ((Int.toNat r9_.1) < List.length v.2.2.2.2)) <|
             .c (Int) (k.2 ((List.getD v.2.2.2.2 (Int.toNat (IntKind.wrap .i64 (v.1 - (1 : Int)))) ([] : List (Int))), ((List.getD v.2.2.2.2 (Int.toNat r9_.1) ([] : List (Int))), ()))) fun r24_ =>
             .t (!(decide (r24_ < (0 : Int))))
              (.f)
              (.c ((Int) × ((Bool) × (List (List (Int))))) (F_slices_partitionCmpFunc_Sint v.1 v.2.1 r9_.1 k.2 v.2.2.2.2) fun r25_ =>
               .g (!decide ((8 : Int) = 0)) <|
               .t (decide ((IntKind.wrap .i64 (r25_.1 - v.1)) < (IntKind.wrap .i64 (v.2.1 - r25_.1))))
                (.c (List (List (Int))) (rec_ v.1 r25_.1 k.1 k.2 r25_.2.2) fun r26_ =>
                 .l (.inl ((IntKind.wrap .i64 (r25_.1 + (1 : Int))), (v.2.1, ((decide ((IntKind.wrap .i64 (Int.tdiv (IntKind.wrap .i64 (v.2.1 - v.1)) (8 : Int))) ≤ (IntKind.wrap .i64 (r25_.1 - v.1)))), (r25_.2.1, r26_))))))
                (.c (List (List (Int))) (rec_ (IntKind.wrap .i64 (r25_.1 + (1 : Int))) v.2.1 k.1 k.2 r25_.2.2) fun r27_ =>
                 .l (.inl (v.1, (r25_.1, ((decide ((IntKind.wrap .i64 (Int.tdiv (IntKind.wrap .i64 (v.2.1 - v.1)) (8 : Int))) ≤ (IntKind.wrap .i64 (v.2.1 - r25_.1)))), (r25_.2.1, r27_))))))))
            (.c ((Int) × ((Bool) × (List (List (Int))))) (F_slices_partitionCmpFunc_Sint v.1 v.2.1 r9_.1 k.2 v.2.2.2.2) fun r28_ =>
             .g (!decide ((8 : Int) = 0)) <|
             .t (decide ((IntKind.wrap .i64 (r28_.1 - v.1)) < (IntKind.wrap .i64 (v.2.1 - r28_.1))))
              (.c (List (List (Int))) (rec_ v.1 r28_.1 k.1 k.2 r28_.2.2) fun r29_ =>
               .l (.inl ((IntKind.wrap .i64 (r28_.1 + (1 : Int))), (v.2.1, ((decide ((IntKind.wrap .i64 (Int.tdiv (IntKind.wrap .i64 (v.2.1 - v.1)) (8 : Int))) ≤ (IntKind.wrap .i64 (r28_.1 - v.1)))), (r28_.2.1, r29_))))))
              (.c (List (List (Int))) (rec_ (IntKind.wrap .i64 (r28_.1 + (1 : Int))) v.2.1 k.1 k.2 r28_.2.2) fun r30_ =>
               .l (.inl (v.1, (r28_.1, ((decide ((IntKind.wrap .i64 (Int.tdiv (IntKind.wrap .i64 (v.2.1 - v.1)) (8 : Int))) ≤ (IntKind.wrap .i64 (v.2.1 - r28_.1)))), (r28_.2.1, r30_))))))))))))
noncomputable def L_slices_pdqsortCmpFunc_Sint_0 (rec_ : (Int) → (Int) → (Int) → ((HL [(.slice (.int .i64)), (.slice (.int .i64))] → Option (Int))) → (List (List (Int))) → Option (List (List (Int)))) (k : (Int) × ((HL [(.slice (.int .i64)), (.slice (.int .i64))] → Option (Int)))) (v : (Int) × ((Int) × ((Bool) × ((Bool) × (List (List (Int))))))) : Option (List (List (Int))) := iter (fun v => (S_slices_pdqsortCmpFunc_Sint_0 rec_ k v).ev) v
noncomputable def DL_slices_pdqsortCmpFunc_Sint_0 (rec_ : (Int) → (Int) → (Int) → ((HL [(.slice (.int .i64)), (.slice (.int .i64))] → Option (Int))) → (List (List (Int))) → Option (List (List (Int)))) : LD where
 head := { acts := [], S := { slots := [0, 1, 2, 3, 4, 10, 11], sh := (.cons (.arr 64) (.cons (.dat (.int .i64)) (.cons (.dat (.int .i64)) (.cons (.dat (.int .i64)) (.cons (.clo [(.slice (.int .i64)), (.slice (.int .i64))] (.int .i64)) (.cons (.dat .bool) (.cons (.dat .bool) .nil))))))), obs := [(64, .arr 22 (.slice (.int .i64)))] } }
 exits := []
 rets := { acts := [], S := { slots := [0], sh := (.cons (.arr 64) .nil), obs := [(64, .arr 22 (.slice (.int .i64)))] } }
 K := (Int) × ((HL [(.slice (.int .i64)), (.slice (.int .i64))] → Option (Int)))
 V := (Int) × ((Int) × ((Bool) × ((Bool) × (List (List (Int))))))
 R := List (List (Int))
 join := fun k v => (((), (v.1, (v.2.1, (k.1, (k.2, (v.2.2.1, (v.2.2.2.1, ()))))))), (v.2.2.2.2, ()))
 sk := fun t => (t.1.2.2.2.1, t.1.2.2.2.2.1)
 sv := fun t => (t.1.2.1, (t.1.2.2.1, (t.1.2.2.2.2.2.1, (t.1.2.2.2.2.2.2.1, t.2.1))))
 step := S_slices_pdqsortCmpFunc_Sint_0 rec_
 leaf := fun _ r => .l (.ret (mkSt ({ slots := [0], sh := (.cons (.arr 64) .nil), obs := [(64, .arr 22 (.slice (.int .i64)))] }) (((), ()), (r, ()))))
noncomputable def T_slices_pdqsortCmpFunc_Sint (rec_ : (Int) → (Int) → (Int) → ((HL [(.slice (.int .i64)), (.slice (.int .i64))] → Option (Int))) → (List (List (Int))) → Option (List (List (Int)))) (a2_ : Int) (a3_ : Int) (a4_ : Int) (a5_ : (HL [(.slice (.int .i64)), (.slice (.int .i64))] → Option (Int))) (a1_ : List (List (Int))) : Tr (List (List (Int))) :=
 .c (List (List (Int))) (L_slices_pdqsortCmpFunc_Sint_0 rec_ (a4_, a5_) (a2_, (a3_, (true, (true, a1_))))) fun r32_ =>
 .l r32_
noncomputable def F_slices_pdqsortCmpFunc_Sint : Nat → (Int) → (Int) → (Int) → ((HL [(.slice (.int .i64)), (.slice (.int .i64))] → Option (Int))) → (List (List (Int))) → Option (List (List (Int)))
 | 0 => fun _ _ _ _ _ => none
 | n + 1 => fun a2_ a3_ a4_ a5_ a1_ => (T_slices_pdqsortCmpFunc_Sint (F_slices_pdqsortCmpFunc_Sint n) a2_ a3_ a4_ a5_ a1_).ev
noncomputable def A_slices_pdqsortCmpFunc_Sint : Sh := (.cons (.arr 64) (.cons (.dat (.int .i64)) (.cons (.dat (.int .i64)) (.cons (.dat (.int .i64)) (.cons (.clo [(.slice (.int .i64)), (.slice (.int .i64))] (.int .i64)) .nil)))))
noncomputable def I_slices_pdqsortCmpFunc_Sint : List (Nat × OSh) := [(64, .arr 22 (.slice (.int .i64)))]
noncomputable def K_slices_pdqsortCmpFunc_Sint : RetK := { acts := [], res := [], sh := .nil, obs := [(64, .arr 22 (.slice (.int .i64)))], pins := [(0, 0, 64)] }
noncomputable def Dr_slices_pdqsortCmpFunc_Sint (rec_ : (Int) → (Int) → (Int) → ((HL [(.slice (.int .i64)), (.slice (.int .i64))] → Option (Int))) → (List (List (Int))) → Option (List (List (Int)))) : FD where
 A := A_slices_pdqsortCmpFunc_Sint
 ins := I_slices_pdqsortCmpFunc_Sint
 lend := [.arg 0]
 R := List (List (Int))
 F := fun x => rec_ x.1.2.1 x.1.2.2.1 x.1.2.2.2.1 x.1.2.2.2.2.1 x.2.1
 emb := fun r => ([], [(64, .arr 22 (.slice (.int .i64)) r)])
noncomputable def D_slices_pdqsortCmpFunc_Sint (n : Nat) : FD := Dr_slices_pdqsortCmpFunc_Sint (F_slices_pdqsortCmpFunc_Sint n)
noncomputable def E_slices_pdqsortCmpFunc_Sint (rec_ : (Int) → (Int) → (Int) → ((HL [(.slice (.int .i64)), (.slice (.int .i64))] → Option (Int))) → (List (List (Int))) → Option (List (List (Int)))) : Env := envOf [(205, D_slices_insertionSortCmpFunc_Sint), (208, D_slices_choosePivotCmpFunc_Sint), (212, D_slices_partitionCmpFunc_Sint), (187, Dr_slices_pdqsortCmpFunc_Sint rec_)]
noncomputable def Z_slices_pdqsortCmpFunc_Sint : Nat → Nat → List Nat := fun _ _ => []
noncomputable def O_slices_pdqsortCmpFunc_Sint (rec_ : (Int) → (Int) → (Int) → ((HL [(.slice (.int .i64)), (.slice (.int .i64))] → Option (Int))) → (List (List (Int))) → Option (List (List (Int)))) : List (Nat × LD) := [(0, DL_slices_pdqsortCmpFunc_Sint_0 rec_)]
noncomputable def C_slices_pdqsortCmpFunc_Sint : Code := (f187.body).getD .skip
noncomputable def T_slices_SortFunc_SSint_Sint (a2_ : (HL [(.slice (.int .i64)), (.slice (.int .i64))] → Option (Int))) (a1_ : List (List (Int))) : Tr (List (List (Int))) :=
 .c (Int) (F_math_bits_Len (IntKind.wrap .u64 ((List.length a1_ : Nat) : Int))) fun r1_ =>
 .c (List (List (Int))) (F_slices_pdqsortCmpFunc_Sint 1000000 (0 : Int) ((List.length a1_ : Nat) : Int) r1_ a2_ a1_) fun r2_ =>
 .l r2_
noncomputable def F_slices_SortFunc_SSint_Sint (a2_ : (HL [(.slice (.int .i64)), (.slice (.int .i64))] → Option (Int))) (a1_ : List (List (Int))) : Option (List (List (Int))) := (T_slices_SortFunc_SSint_Sint a2_ a1_).ev
noncomputable def A_slices_SortFunc_SSint_Sint : Sh := (.cons (.arr 64) (.cons (.clo [(.slice (.int .i64)), (.slice (.int .i64))] (.int .i64)) .nil))
noncomputable def I_slices_SortFunc_SSint_Sint : List (Nat × OSh) := [(64, .arr 22 (.slice (.int .i64)))]
noncomputable def K_slices_SortFunc_SSint_Sint : RetK := { acts := [], res := [], sh := .nil, obs := [(64, .arr 22 (.slice (.int .i64)))], pins := [(0, 0, 64)] }
noncomputable def D_slices_SortFunc_SSint_Sint : FD where
 A := A_slices_SortFunc_SSint_Sint
 ins := I_slices_SortFunc_SSint_Sint
 lend := [.arg 0]
 R := List (List (Int))
 F := fun x => F_slices_SortFunc_SSint_Sint x.1.2.1 x.2.1
 emb := fun r => ([], [(64, .arr 22 (.slice (.int .i64)) r)])
noncomputable def E_slices_SortFunc_SSint_Sint : Env := envOf [(185, D_math_bits_Len), (187, D_slices_pdqsortCmpFunc_Sint 1000000)]
noncomputable def Z_slices_SortFunc_SSint_Sint : Nat → Nat → List Nat := fun _ _ => []
noncomputable def O_slices_SortFunc_SSint_Sint : List (Nat × LD) := []
noncomputable def C_slices_SortFunc_SSint_Sint : Code := (f168.body).getD .skip
noncomputable def T_cmp_isNaN_int (a1_ : Int) : Tr (Bool) :=
 .l (a1_ != a1_)
noncomputable def F_cmp_isNaN_int (a1_ : Int) : Option (Bool) := (T_cmp_isNaN_int a1_).ev
noncomputable def A_cmp_isNaN_int : Sh := (.cons (.dat (.int .i64)) .nil)
noncomputable def I_cmp_isNaN_int : List (Nat × OSh) := []
noncomputable def K_cmp_isNaN_int : RetK := { acts := [], res := [.tmp 2], sh := (.cons (.dat .bool) .nil), obs := [], pins := [] }
noncomputable def D_cmp_isNaN_int : FD where
 A := A_cmp_isNaN_int
 ins := I_cmp_isNaN_int
 lend := []
 R := Bool
 F := fun x => F_cmp_isNaN_int x.1.1
 emb := fun r => ([.dat .bool r], [])
noncomputable def E_cmp_isNaN_int : Env := envOf []
noncomputable def Z_cmp_isNaN_int : Nat → Nat → List Nat := fun _ _ => []
noncomputable def O_cmp_isNaN_int : List (Nat × LD) := []
noncomputable def C_cmp_isNaN_int : Code := (f213.body).getD .skip
noncomputable def T_cmp_Compare_int (a1_ : Int) (a2_ : Int) : Tr (Int) :=
 .c (Bool) (F_cmp_isNaN_int a1_) fun r1_ =>
 .c (Bool) (F_cmp_isNaN_int a2_) fun r2_ =>
 .t r1_
  (.t r2_
    (.l (0 : Int))
    (.l (-1 : Int)))
  (.t r2_
    (.l (1 : Int))
    (.t (decide (a1_ < a2_))
      (.l (-1 : Int))
      (.t (decide (a2_ < a1_))
        (.l (1 : Int))
        (.l (0 : Int)))))
noncomputable def F_cmp_Compare_int (a1_ : Int) (a2_ : Int) : Option (Int) := (T_cmp_Compare_int a1_ a2_).ev
noncomputable def A_cmp_Compare_int : Sh := (.cons (.dat (.int .i64)) (.cons (.dat (.int .i64)) .nil))
noncomputable def I_cmp_Compare_int : List (Nat × OSh) := []
noncomputable def K_cmp_Compare_int : RetK := { acts := [], res := [.tmp 4], sh := (.cons (.dat (.int .i64)) .nil), obs := [], pins := [] }
noncomputable def D_cmp_Compare_int : FD where
 A := A_cmp_Compare_int
 ins := I_cmp_Compare_int
 lend := []
 R := Int
 F := fun x => F_cmp_Compare_int x.1.1 x.1.2.1
 emb := fun r => ([.dat (.int .i64) r], [])
noncomputable def E_cmp_Compare_int : Env := envOf [(213, D_cmp_isNaN_int)]
noncomputable def Z_cmp_Compare_int : Nat → Nat → List Nat := fun _ _ => []
noncomputable def O_cmp_Compare_int : List (Nat × LD) := []
noncomputable def C_cmp_Compare_int : Code := (f189.body).getD .skip
noncomputable def S_slices_Compare_Sint_int_0 (k : (List (Int)) × ((List (Int)) × ((List (Int)) × (Int)))) (v : Int) : Tr ((Int) ⊕ ((Unit) ⊕ (Int))) :=
 .t (decide (v < k.2.2.2))
  (.g (inR v (List.length k.2.2.1)) <|
   .t (decide (((List.length k.2.1 : Nat) : Int) ≤ v))
    (.l (.inr (.inr (1 : Int))))
    (.g (inR v (List.length k.2.1)) <|
     .c (Int) (F_cmp_Compare_int (List.getD k.2.2.1 (Int.toNat v) (0 : Int)) (List.getD k.2.1 (Int.toNat v) (0 : Int))) fun r6_ =>
     .t (r6_ != (0 : Int))
      (.l (.inr (.inr r6_)))
      (.l (.inl (IntKind.wrap .i64 (v + (1 : Int)))))))
  (.l (.inr (.inl ())))
noncomputable def L_slices_Compare_Sint_int_0 (k : (List (Int)) × ((List (Int)) × ((List (Int)) × (Int)))) (v : Int) : Option ((Unit) ⊕ (Int)) := iter (fun v => (S_slices_Compare_Sint_int_0 k v).ev) v
noncomputable def DL_slices_Compare_Sint_int_0 : LD where
 head := { acts := [], S := { slots := [0, 1, 9, 10, 11], sh := (.cons (.dat (.slice (.int .i64))) (.cons (.dat (.slice (.int .i64))) (.cons (.dat (.slice (.int .i64))) (.cons (.dat (.int .i64)) (.cons (.dat (.int .i64)) .nil))))), obs := [] } }
 exits := [(0, { acts := [], S := { slots := [0, 1], sh := (.cons (.dat (.slice (.int .i64))) (.cons (.dat (.slice (.int .i64))) .nil)), obs := [] } })]
 rets := { acts := [], S := { slots := [4], sh := (.cons (.dat (.int .i64)) .nil), obs := [] } }
 K := (List (Int)) × ((List (Int)) × ((List (Int)) × (Int)))
 V := Int
 R := (Unit) ⊕ (Int)
 join := fun k v => ((k.1, (k.2.1, (k.2.2.1, (k.2.2.2, (v, ()))))), ())
 sk := fun t => (t.1.1, (t.1.2.1, (t.1.2.2.1, t.1.2.2.2.1)))
 sv := fun t => t.1.2.2.2.2.1
 step := S_slices_Compare_Sint_int_0
 leaf := fun k r => .s (Unit) (Int) r (fun _ => .l (.exit 0 (mkSt ({ slots := [0, 1], sh := (.cons (.dat (.slice (.int .i64))) (.cons (.dat (.slice (.int .i64))) .nil)), obs := [] }) ((k.1, (k.2.1, ())), ())))) (fun b => .l (.ret (mkSt ({ slots := [4], sh := (.cons (.dat (.int .i64)) .nil), obs := [] }) ((b, ()), ()))))
noncomputable def T_slices_Compare_Sint_int (a1_ : List (Int)) (a2_ : List (Int)) : Tr (Int) :=
 .c ((Unit) ⊕ (Int)) (L_slices_Compare_Sint_int_0 (a1_, (a2_, (a1_, ((List.length a1_ : Nat) : Int)))) (0 : Int)) fun r10_ =>
 .s (Unit) (Int) r10_
  (fun _ => .t (decide (((List.length a1_ : Nat) : Int) < ((List.length a2_ : Nat) : Int)))
    (.l (-1 : Int))
    (.l (0 : Int)))
  (fun r12_ => .l r12_)
noncomputable def F_slices_Compare_Sint_int (a1_ : List (Int)) (a2_ : List (Int)) : Option (Int) := (T_slices_Compare_Sint_int a1_ a2_).ev
noncomputable def A_slices_Compare_Sint_int : Sh := (.cons (.dat (.slice (.int .i64))) (.cons (.dat (.slice (.int .i64))) .nil))
noncomputable def I_slices_Compare_Sint_int : List (Nat × OSh) := []
noncomputable def K_slices_Compare_Sint_int : RetK := { acts := [], res := [.tmp 4], sh := (.cons (.dat (.int .i64)) .nil), obs := [], pins := [] }
noncomputable def D_slices_Compare_Sint_int : FD where
 A := A_slices_Compare_Sint_int
 ins := I_slices_Compare_Sint_int
 lend := []
 R := Int
 F := fun x => F_slices_Compare_Sint_int x.1.1 x.1.2.1
 emb := fun r => ([.dat (.int .i64) r], [])
noncomputable def E_slices_Compare_Sint_int : Env := envOf [(189, D_cmp_Compare_int)]
noncomputable def Z_slices_Compare_Sint_int : Nat → Nat → List Nat := fun _ _ => []
noncomputable def O_slices_Compare_Sint_int : List (Nat × LD) := [(0, DL_slices_Compare_Sint_int_0)]
noncomputable def C_slices_Compare_Sint_int : Code := (f190.body).getD .skip
noncomputable def S_cmp_Or_int_0 (k : (Int) × ((List (Int)) × (Int))) (v : Int) : Tr ((Int) ⊕ ((Unit) ⊕ (Int))) :=
 .t (decide (v < k.2.2))
  (.g (inR v (List.length k.2.1)) <|
   .t ((List.getD k.2.1 (Int.toNat v) (0 : Int)) != k.1)
    (.l (.inr (.inr (List.getD k.2.1 (Int.toNat v) (0 : Int)))))
    (.l (.inl (IntKind.wrap .i64 (v + (1 : Int))))))
  (.l (.inr (.inl ())))
noncomputable def L_cmp_Or_int_0 (k : (Int) × ((List (Int)) × (Int))) (v : Int) : Option ((Unit) ⊕ (Int)) := iter (fun v => (S_cmp_Or_int_0 k v).ev) v
noncomputable def DL_cmp_Or_int_0 : LD where
 head := { acts := [], S := { slots := [3, 6, 7, 8], sh := (.cons (.dat (.int .i64)) (.cons (.dat (.slice (.int .i64))) (.cons (.dat (.int .i64)) (.cons (.dat (.int .i64)) .nil)))), obs := [] } }
 exits := [(0, { acts := [], S := { slots := [3], sh := (.cons (.dat (.int .i64)) .nil), obs := [] } })]
 rets := { acts := [], S := { slots := [2], sh := (.cons (.dat (.int .i64)) .nil), obs := [] } }
 K := (Int) × ((List (Int)) × (Int))
 V := Int
 R := (Unit) ⊕ (Int)
 join := fun k v => ((k.1, (k.2.1, (k.2.2, (v, ())))), ())
 sk := fun t => (t.1.1, (t.1.2.1, t.1.2.2.1))
 sv := fun t => t.1.2.2.2.1
 step := S_cmp_Or_int_0
 leaf := fun k r => .s (Unit) (Int) r (fun _ => .l (.exit 0 (mkSt ({ slots := [3], sh := (.cons (.dat (.int .i64)) .nil), obs := [] }) ((k.1, ()), ())))) (fun b => .l (.ret (mkSt ({ slots := [2], sh := (.cons (.dat (.int .i64)) .nil), obs := [] }) ((b, ()), ()))))
noncomputable def T_cmp_Or_int (a1_ : List (Int)) : Tr (Int) :=
 .c ((Unit) ⊕ (Int)) (L_cmp_Or_int_0 ((0 : Int), (a1_, ((List.length a1_ : Nat) : Int))) (0 : Int)) fun r7_ =>
 .s (Unit) (Int) r7_
  (fun _ => .l (0 : Int))
  (fun r9_ => .l r9_)
noncomputable def F_cmp_Or_int (a1_ : List (Int)) : Option (Int) := (T_cmp_Or_int a1_).ev
noncomputable def A_cmp_Or_int : Sh := (.cons (.dat (.slice (.int .i64))) .nil)
noncomputable def I_cmp_Or_int : List (Nat × OSh) := []
noncomputable def K_cmp_Or_int : RetK := { acts := [], res := [.tmp 2], sh := (.cons (.dat (.int .i64)) .nil), obs := [], pins := [] }
noncomputable def D_cmp_Or_int : FD where
 A := A_cmp_Or_int
 ins := I_cmp_Or_int
 lend := []
 R := Int
 F := fun x => F_cmp_Or_int x.1.1
 emb := fun r => ([.dat (.int .i64) r], [])
noncomputable def E_cmp_Or_int : Env := envOf []
noncomputable def Z_cmp_Or_int : Nat → Nat → List Nat := fun _ _ => []
noncomputable def O_cmp_Or_int : List (Nat × LD) := [(0, DL_cmp_Or_int_0)]
noncomputable def C_cmp_Or_int : Code := (f188.body).getD .skip
noncomputable def T_im_compareSets (a1_ : List (Int)) (a2_ : List (Int)) : Tr (Int) :=
 .c (Int) (F_cmp_Compare_int ((List.length a1_ : Nat) : Int) ((List.length a2_ : Nat) : Int)) fun r1_ =>
 .c (Int) (F_slices_Compare_Sint_int a1_ a2_) fun r2_ =>
 .c (Int) (F_cmp_Or_int ([r1_, r2_] : List (Int))) fun r3_ =>
 .l r3_
noncomputable def F_im_compareSets (a1_ : List (Int)) (a2_ : List (Int)) : Option (Int) := (T_im_compareSets a1_ a2_).ev
noncomputable def A_im_compareSets : Sh := (.cons (.dat (.slice (.int .i64))) (.cons (.dat (.slice (.int .i64))) .nil))
noncomputable def I_im_compareSets : List (Nat × OSh) := []
noncomputable def K_im_compareSets : RetK := { acts := [], res := [.tmp 4], sh := (.cons (.dat (.int .i64)) .nil), obs := [], pins := [] }
noncomputable def D_im_compareSets : FD where
 A := A_im_compareSets
 ins := I_im_compareSets
 lend := []
 R := Int
 F := fun x => F_im_compareSets x.1.1 x.1.2.1
 emb := fun r => ([.dat (.int .i64) r], [])
noncomputable def E_im_compareSets : Env := envOf [(189, D_cmp_Compare_int), (190, D_slices_Compare_Sint_int), (188, D_cmp_Or_int)]
noncomputable def Z_im_compareSets : Nat → Nat → List Nat := fun _ _ => []
noncomputable def O_im_compareSets : List (Nat × LD) := []
noncomputable def C_im_compareSets : Code := (f169.body).getD .skip
noncomputable def S_im_sets_0 (k : Int) (v : (Int) × (List (List (Int)))) : Tr (((Int) × (List (List (Int)))) ⊕ (List (List (Int)))) :=
 .g (decide ((0 : Int) ≤ k)) <|
 .t (decide (v.1 < (IntKind.wrap .u64 ((1 : Int) * 2 ^ (min (Int.toNat k) (IntKind.bits .u64))))))
  (.c (List (Int)) (F_im_bag_list v.1) fun r4_ =>
   .g (decide ((List.length v.2 + List.length ([r4_] : List (List (Int)))) * 24 ≤ 140737488355328)) <|
   .l (.inl ((IntKind.wrap .u64 (v.1 + (1 : Int))), (v.2 ++ ([r4_] : List (List (Int)))))))
  (.l (.inr v.2))
noncomputable def L_im_sets_0 (k : Int) (v : (Int) × (List (List (Int)))) : Option (List (List (Int))) := iter (fun v => (S_im_sets_0 k v).ev) v
noncomputable def DL_im_sets_0 : LD where
 head := { acts := [], S := { slots := [0, 3, 4], sh := (.cons (.dat (.int .i64)) (.cons (.arr 5) (.cons (.dat (.int .u64)) .nil))), obs := [(5, .arr 22 (.slice (.int .i64)))] } }
 exits := [(0, { acts := [], S := { slots := [3], sh := (.cons (.arr 5) .nil), obs := [(5, .arr 22 (.slice (.int .i64)))] } })]
 rets := { acts := [], S := { slots := [], sh := .nil, obs := [] } }
 K := Int
 V := (Int) × (List (List (Int)))
 R := List (List (Int))
 join := fun k v => ((k, ((), (v.1, ()))), (v.2, ()))
 sk := fun t => t.1.1
 sv := fun t => (t.1.2.2.1, t.2.1)
 step := S_im_sets_0
 leaf := fun _ r => .l (.exit 0 (mkSt ({ slots := [3], sh := (.cons (.arr 5) .nil), obs := [(5, .arr 22 (.slice (.int .i64)))] }) (((), ()), (r, ()))))
noncomputable def T_im_sets (a1_ : Int) : Tr (List (List (Int))) :=
 .c (List (List (Int))) (L_im_sets_0 a1_ ((1 : Int), ([] : List (List (Int))))) fun r6_ =>
 .c (List (List (Int))) (F_slices_SortFunc_SSint_Sint (fun h7_ => Option.bind (F_im_compareSets h7_.1 h7_.2.1) fun y8_ => some y8_) r6_) fun r9_ =>
 .l r9_
noncomputable def F_im_sets (a1_ : Int) : Option (List (List (Int))) := (T_im_sets a1_).ev
noncomputable def A_im_sets : Sh := (.cons (.dat (.int .i64)) .nil)
noncomputable def I_im_sets : List (Nat × OSh) := []
noncomputable def K_im_sets : RetK := { acts := [.ren 5 0], res := [.tmp 2], sh := (.cons (.arr 0) .nil), obs := [(0, .arr 22 (.slice (.int .i64)))], pins := [] }
noncomputable def D_im_sets : FD where
 A := A_im_sets
 ins := I_im_sets
 lend := []
 R := List (List (Int))
 F := fun x => F_im_sets x.1.1
 emb := fun r => ([.arr 0], [(0, .arr 22 (.slice (.int .i64)) r)])
noncomputable def E_im_sets : Env := envOf [(144, D_im_bag_list), (168, D_slices_SortFunc_SSint_Sint), (168, D_slices_SortFunc_SSint_Sint), (169, D_im_compareSets)]
noncomputable def Z_im_sets : Nat → Nat → List Nat := fun r i => match look [(5, [(3, [14])])] r with
 | some l => (look l i).getD []
 | none => []
noncomputable def O_im_sets : List (Nat × LD) := [(0, DL_im_sets_0)]
noncomputable def C_im_sets : Code := (f118.body).getD .skip
noncomputable def S_im_lists_0 (k : ((HL [(.slice (.int .i64))] → Option (Bool))) × ((Int) × (List (List (Int))))) (v : (Int) × (List (List (Int)))) : Tr (((Int) × (List (List (Int)))) ⊕ (List (List (Int)))) :=
 .t (decide (v.1 < k.2.1))
  (.g (inR v.1 (List.length k.2.2)) <|
   .g (decide ((Int.toNat v.1) < List.length k.2.2)) <|
   .c (Bool) (k.1 ((List.getD k.2.2 (Int.toNat v.1) ([] : List (Int))), ())) fun r7_ =>
   .t r7_
    (.g (decide ((List.length v.2 + List.length ([(List.getD k.2.2 (Int.toNat v.1) ([] : List (Int)))] : List (List (Int)))) * 24 ≤ 140737488355328)) <|
     .l (.inl ((IntKind.wrap .i64 (v.1 + (1 : Int))), (v.2 ++ ([(List.getD k.2.2 (Int.toNat v.1) ([] : List (Int)))] : List (List (Int)))))))
    (.l (.inl ((IntKind.wrap .i64 (v.1 + (1 : Int))), v.2))))
  (.l (.inr v.2))
noncomputable def L_im_lists_0 (k : ((HL [(.slice (.int .i64))] → Option (Bool))) × ((Int) × (List (List (Int))))) (v : (Int) × (List (List (Int)))) : Option (List (List (Int))) := iter (fun v => (S_im_lists_0 k v).ev) v
noncomputable def DL_im_lists_0 : LD where
 head := { acts := [], S := { slots := [1, 5, 13, 14, 15], sh := (.cons (.clo [(.slice (.int .i64))] .bool) (.cons (.arr 8) (.cons (.arr 10) (.cons (.dat (.int .i64)) (.cons (.dat (.int .i64)) .nil))))), obs := [(8, .arr 22 (.slice (.int .i64))), (10, .arr 22 (.slice (.int .i64)))] } }
 exits := [(0, { acts := [], S := { slots := [5], sh := (.cons (.arr 8) .nil), obs := [(8, .arr 22 (.slice (.int .i64)))] } })]
 rets := { acts := [], S := { slots := [], sh := .nil, obs := [] } }
 K := ((HL [(.slice (.int .i64))] → Option (Bool))) × ((Int) × (List (List (Int))))
 V := (Int) × (List (List (Int)))
 R := List (List (Int))
 join := fun k v => ((k.1, ((), ((), (k.2.1, (v.1, ()))))), (v.2, (k.2.2, ())))
 sk := fun t => (t.1.1, (t.1.2.2.2.1, t.2.2.1))
 sv := fun t => (t.1.2.2.2.2.1, t.2.1)
 step := S_im_lists_0
 leaf := fun _ r => .l (.exit 0 (mkSt ({ slots := [5], sh := (.cons (.arr 8) .nil), obs := [(8, .arr 22 (.slice (.int .i64)))] }) (((), ()), (r, ()))))
noncomputable def T_im_lists (a1_ : Int) (a2_ : (HL [(.slice (.int .i64))] → Option (Bool))) : Tr (List (List (Int))) :=
 .c (List (List (Int))) (F_im_sets a1_) fun r1_ =>
 .g (decide ((List.length ([([] : List (Int))] : List (List (Int))) + List.length r1_) * 24 ≤ 140737488355328)) <|
 .c (List (List (Int))) (L_im_lists_0 (a2_, (((List.length (([([] : List (Int))] : List (List (Int))) ++ r1_) : Nat) : Int), (([([] : List (Int))] : List (List (Int))) ++ r1_))) ((0 : Int), ([] : List (List (Int))))) fun r9_ =>
 .l r9_
noncomputable def F_im_lists (a1_ : Int) (a2_ : (HL [(.slice (.int .i64))] → Option (Bool))) : Option (List (List (Int))) := (T_im_lists a1_ a2_).ev
noncomputable def A_im_lists : Sh := (.cons (.dat (.int .i64)) (.cons (.clo [(.slice (.int .i64))] .bool) .nil))
noncomputable def I_im_lists : List (Nat × OSh) := []
noncomputable def K_im_lists : RetK := { acts := [.ren 8 0], res := [.tmp 4], sh := (.cons (.arr 0) .nil), obs := [(0, .arr 22 (.slice (.int .i64)))], pins := [] }
noncomputable def D_im_lists : FD where
 A := A_im_lists
 ins := I_im_lists
 lend := []
 R := List (List (Int))
 F := fun x => F_im_lists x.1.1 x.1.2.1
 emb := fun r => ([.arr 0], [(0, .arr 22 (.slice (.int .i64)) r)])
noncomputable def E_im_lists : Env := envOf [(118, D_im_sets)]
noncomputable def Z_im_lists : Nat → Nat → List Nat := fun r i => match look [(2, [(1, [9])])] r with
 | some l => (look l i).getD []
 | none => []
noncomputable def O_im_lists : List (Nat × LD) := [(0, DL_im_lists_0)]
noncomputable def C_im_lists : Code := (f94.body).getD .skip
noncomputable def S_im_isRising_0 (k : (List (Int)) × ((Int) × ((List (Int)) × (Int)))) (v : Int) : Tr ((Int) ⊕ ((Unit) ⊕ (Unit))) :=
 .t (decide (v < k.2.2.2))
  (.g (inR v (List.length k.2.2.1)) <|
   .c (Bool) (F_im_between (List.getD k.2.2.1 (Int.toNat v) (0 : Int)) (0 : Int) (IntKind.wrap .i64 (k.2.1 - (1 : Int)))) fun r6_ =>
   .t (!r6_)
    (.l (.inr (.inr ())))
    (.t (decide ((0 : Int) < v))
      (.g (inR (IntKind.wrap .i64 (v - (1 : Int))) (List.length k.1)) <|
       .t (decide ((List.getD k.2.2.1 (Int.toNat v) (0 : Int)) ≤ (List.getD k.1 (Int.toNat (IntKind.wrap .i64 (v - (1 : Int)))) (0 : Int))))
        (.l (.inr (.inr ())))
        (.l (.inl (IntKind.wrap .i64 (v + (1 : Int))))))
      (.l (.inl (IntKind.wrap .i64 (v + (1 : Int)))))))
  (.l (.inr (.inl ())))
noncomputable def L_im_isRising_0 (k : (List (Int)) × ((Int) × ((List (Int)) × (Int)))) (v : Int) : Option ((Unit) ⊕ (Unit)) := iter (fun v => (S_im_isRising_0 k v).ev) v
noncomputable def DL_im_isRising_0 : LD where
 head := { acts := [], S := { slots := [0, 1, 7, 8, 9], sh := (.cons (.dat (.slice (.int .i64))) (.cons (.dat (.int .i64)) (.cons (.dat (.slice (.int .i64))) (.cons (.dat (.int .i64)) (.cons (.dat (.int .i64)) .nil))))), obs := [] } }
 exits := [(0, { acts := [], S := { slots := [], sh := .nil, obs := [] } })]
 rets := { acts := [], S := { slots := [4], sh := (.cons (.dat .bool) .nil), obs := [] } }
 K := (List (Int)) × ((Int) × ((List (Int)) × (Int)))
 V := Int
 R := (Unit) ⊕ (Unit)
 join := fun k v => ((k.1, (k.2.1, (k.2.2.1, (k.2.2.2, (v, ()))))), ())
 sk := fun t => (t.1.1, (t.1.2.1, (t.1.2.2.1, t.1.2.2.2.1)))
 sv := fun t => t.1.2.2.2.2.1
 step := S_im_isRising_0
 leaf := fun _ r => .s (Unit) (Unit) r (fun _ => .l (.exit 0 (mkSt ({ slots := [], sh := .nil, obs := [] }) ((), ())))) (fun _ => .l (.ret (mkSt ({ slots := [4], sh := (.cons (.dat .bool) .nil), obs := [] }) ((false, ()), ()))))
noncomputable def T_im_isRising (a1_ : List (Int)) (a2_ : Int) : Tr (Bool) :=
 .c ((Unit) ⊕ (Unit)) (L_im_isRising_0 (a1_, (a2_, (a1_, ((List.length a1_ : Nat) : Int)))) (0 : Int)) fun r8_ =>
 .s (Unit) (Unit) r8_
  (fun _ => .l true)
  (fun _ => .l false)
noncomputable def F_im_isRising (a1_ : List (Int)) (a2_ : Int) : Option (Bool) := (T_im_isRising a1_ a2_).ev
noncomputable def A_im_isRising : Sh := (.cons (.dat (.slice (.int .i64))) (.cons (.dat (.int .i64)) .nil))
noncomputable def I_im_isRising : List (Nat × OSh) := []
noncomputable def K_im_isRising : RetK := { acts := [], res := [.tmp 4], sh := (.cons (.dat .bool) .nil), obs := [], pins := [] }
noncomputable def D_im_isRising : FD where
 A := A_im_isRising
 ins := I_im_isRising
 lend := []
 R := Bool
 F := fun x => F_im_isRising x.1.1 x.1.2.1
 emb := fun r => ([.dat .bool r], [])
noncomputable def E_im_isRising : Env := envOf [(136, D_im_between)]
noncomputable def Z_im_isRising : Nat → Nat → List Nat := fun _ _ => []
noncomputable def O_im_isRising : List (Nat × LD) := [(0, DL_im_isRising_0)]
noncomputable def C_im_isRising : Code := (f131.body).getD .skip
noncomputable def T_im_Season_isPossible (a1_ : List (Int)) (_a2_ : List (Int)) (_a3_ : List (Int)) (a4_ : List (List (List (Int)))) (a5_ : Int) (a6_ : List (Int)) : Tr (Bool) :=
 .c (Bool) (F_im_isRising a6_ ((List.length a1_ : Nat) : Int)) fun r1_ =>
 .t r1_
  (.t (decide ((0 : Int) < ((List.length a6_ : Nat) : Int)))
    (.l true)
    (.g (inR a5_ (List.length a4_)) <|
     .l (((List.length (List.getD a4_ (Int.toNat a5_) ([] : List (List (Int)))) : Nat) : Int) == (0 : Int))))
  (.l false)
noncomputable def F_im_Season_isPossible (a1_ : List (Int)) (a2_ : List (Int)) (a3_ : List (Int)) (a4_ : List (List (List (Int)))) (a5_ : Int) (a6_ : List (Int)) : Option (Bool) := (T_im_Season_isPossible a1_ a2_ a3_ a4_ a5_ a6_).ev
noncomputable def A_im_Season_isPossible : Sh := (.cons (.agg (.cons (.dat (.slice (.int .i64))) (.cons (.dat (.slice (.int .i64))) (.cons (.dat (.slice (.int .i64))) (.cons (.dat (.slice (.slice (.slice (.int .i64))))) .nil))))) (.cons (.dat (.int .i64)) (.cons (.dat (.slice (.int .i64))) .nil)))
noncomputable def I_im_Season_isPossible : List (Nat × OSh) := []
noncomputable def K_im_Season_isPossible : RetK := { acts := [], res := [.tmp 6], sh := (.cons (.dat .bool) .nil), obs := [], pins := [] }
noncomputable def D_im_Season_isPossible : FD where
 A := A_im_Season_isPossible
 ins := I_im_Season_isPossible
 lend := []
 R := Bool
 F := fun x => F_im_Season_isPossible x.1.1.1 x.1.1.2.1 x.1.1.2.2.1 x.1.1.2.2.2.1 x.1.2.1 x.1.2.2.1
 emb := fun r => ([.dat .bool r], [])
noncomputable def E_im_Season_isPossible : Env := envOf [(131, D_im_isRising)]
noncomputable def Z_im_Season_isPossible : Nat → Nat → List Nat := fun _ _ => []
noncomputable def O_im_Season_isPossible : List (Nat × LD) := []
noncomputable def C_im_Season_isPossible : Code := (f151.body).getD .skip
noncomputable def S_im_Season_isPlan_0 (k : (List (List (Int))) × ((Int) × ((List (Int)) × ((List (Int)) × ((List (Int)) × (List (List (List (Int))))))))) (v : Int) : Tr ((Int) ⊕ ((Unit) ⊕ (Unit))) :=
 .t (decide (v < k.2.1))
  (.g (inR v (List.length k.1)) <|
   .c (Bool) (F_im_Season_isPossible k.2.2.1 k.2.2.2.1 k.2.2.2.2.1 k.2.2.2.2.2 v (List.getD k.1 (Int.toNat v) ([] : List (Int)))) fun r8_ =>
   .t (!r8_)
    (.l (.inr (.inr ())))
    (.l (.inl (IntKind.wrap .i64 (v + (1 : Int))))))
  (.l (.inr (.inl ())))
noncomputable def L_im_Season_isPlan_0 (k : (List (List (Int))) × ((Int) × ((List (Int)) × ((List (Int)) × ((List (Int)) × (List (List (List (Int))))))))) (v : Int) : Option ((Unit) ⊕ (Unit)) := iter (fun v => (S_im_Season_isPlan_0 k v).ev) v
noncomputable def DL_im_Season_isPlan_0 : LD where
 head := { acts := [], S := { slots := [2, 13, 14, 15], sh := (.cons (.box 2 0) (.cons (.dat (.slice (.slice (.int .i64)))) (.cons (.dat (.int .i64)) (.cons (.dat (.int .i64)) .nil)))), obs := [(2, .cells (.cons (.dat (.slice (.int .i64))) (.cons (.dat (.slice (.int .i64))) (.cons (.dat (.slice (.int .i64))) (.cons (.dat (.slice (.slice (.slice (.int .i64))))) .nil)))))] } }
 exits := [(0, { acts := [], S := { slots := [], sh := .nil, obs := [] } })]
 rets := { acts := [], S := { slots := [4], sh := (.cons (.dat .bool) .nil), obs := [] } }
 K := (List (List (Int))) × ((Int) × ((List (Int)) × ((List (Int)) × ((List (Int)) × (List (List (List (Int))))))))
 V := Int
 R := (Unit) ⊕ (Unit)
 join := fun k v => (((), (k.1, (k.2.1, (v, ())))), ((k.2.2.1, (k.2.2.2.1, (k.2.2.2.2.1, (k.2.2.2.2.2, ())))), ()))
 sk := fun t => (t.1.2.1, (t.1.2.2.1, (t.2.1.1, (t.2.1.2.1, (t.2.1.2.2.1, t.2.1.2.2.2.1)))))
 sv := fun t => t.1.2.2.2.1
 step := S_im_Season_isPlan_0
 leaf := fun _ r => .s (Unit) (Unit) r (fun _ => .l (.exit 0 (mkSt ({ slots := [], sh := .nil, obs := [] }) ((), ())))) (fun _ => .l (.ret (mkSt ({ slots := [4], sh := (.cons (.dat .bool) .nil), obs := [] }) ((false, ()), ()))))
noncomputable def T_im_Season_isPlan (a1_ : List (Int)) (a2_ : List (Int)) (a3_ : List (Int)) (a4_ : List (List (List (Int)))) (a5_ : List (List (Int))) : Tr (Bool) :=
 .t (((List.length a5_ : Nat) : Int) != ((List.length a4_ : Nat) : Int))
  (.l false)
  (.c ((Unit) ⊕ (Unit)) (L_im_Season_isPlan_0 (a5_, (((List.length a5_ : Nat) : Int), (a1_, (a2_, (a3_, a4_))))) (0 : Int)) fun r10_ =>
   .s (Unit) (Unit) r10_
    (fun _ => .l true)
    (fun _ => .l false))
noncomputable def F_im_Season_isPlan (a1_ : List (Int)) (a2_ : List (Int)) (a3_ : List (Int)) (a4_ : List (List (List (Int)))) (a5_ : List (List (Int))) : Option (Bool) := (T_im_Season_isPlan a1_ a2_ a3_ a4_ a5_).ev
noncomputable def A_im_Season_isPlan : Sh := (.cons (.agg (.cons (.dat (.slice (.int .i64))) (.cons (.dat (.slice (.int .i64))) (.cons (.dat (.slice (.int .i64))) (.cons (.dat (.slice (.slice (.slice (.int .i64))))) .nil))))) (.cons (.dat (.slice (.slice (.int .i64)))) .nil))
noncomputable def I_im_Season_isPlan : List (Nat × OSh) := []
noncomputable def K_im_Season_isPlan : RetK := { acts := [], res := [.tmp 4], sh := (.cons (.dat .bool) .nil), obs := [], pins := [] }
noncomputable def D_im_Season_isPlan : FD where
 A := A_im_Season_isPlan
 ins := I_im_Season_isPlan
 lend := []
 R := Bool
 F := fun x => F_im_Season_isPlan x.1.1.1 x.1.1.2.1 x.1.1.2.2.1 x.1.1.2.2.2.1 x.1.2.1
 emb := fun r => ([.dat .bool r], [])
noncomputable def E_im_Season_isPlan : Env := envOf [(151, D_im_Season_isPossible)]
noncomputable def Z_im_Season_isPlan : Nat → Nat → List Nat := fun _ _ => []
noncomputable def O_im_Season_isPlan : List (Nat × LD) := [(0, DL_im_Season_isPlan_0)]
noncomputable def C_im_Season_isPlan : Code := (f96.body).getD .skip
noncomputable def T_im_StaticPlan_2 (a1_ : List (Int)) (a2_ : List (Int)) (a3_ : List (Int)) (a4_ : List (Int)) (a5_ : List (List (List (Int)))) (a6_ : (HL [(.slice (.int .i64))] → Option (List (List (Int))))) : Tr (Bool) :=
 .c (List (List (Int))) (a6_ (a1_, ())) fun r1_ =>
 .c (Bool) (F_im_Season_isPlan a2_ a3_ a4_ a5_ r1_) fun r2_ =>
 .l r2_
noncomputable def F_im_StaticPlan_2 (a1_ : List (Int)) (a2_ : List (Int)) (a3_ : List (Int)) (a4_ : List (Int)) (a5_ : List (List (List (Int)))) (a6_ : (HL [(.slice (.int .i64))] → Option (List (List (Int))))) : Option (Bool) := (T_im_StaticPlan_2 a1_ a2_ a3_ a4_ a5_ a6_).ev
noncomputable def A_im_StaticPlan_2 : Sh := (.cons (.dat (.slice (.int .i64))) (.cons (.ptr (.cons (.dat (.slice (.int .i64))) (.cons (.dat (.slice (.int .i64))) (.cons (.dat (.slice (.int .i64))) (.cons (.dat (.slice (.slice (.slice (.int .i64))))) .nil))))) (.cons (.ptr (.cons (.clo [(.slice (.int .i64))] (.slice (.slice (.int .i64)))) .nil)) .nil)))
noncomputable def I_im_StaticPlan_2 : List (Nat × OSh) := []
noncomputable def K_im_StaticPlan_2 : RetK := { acts := [], res := [.tmp 4], sh := (.cons (.dat .bool) .nil), obs := [], pins := [] }
noncomputable def D_im_StaticPlan_2 : FD where
 A := A_im_StaticPlan_2
 ins := I_im_StaticPlan_2
 lend := []
 R := Bool
 F := fun x => F_im_StaticPlan_2 x.1.1 x.1.2.1.1 x.1.2.1.2.1 x.1.2.1.2.2.1 x.1.2.1.2.2.2.1 x.1.2.2.1.1
 emb := fun r => ([.dat .bool r], [])
noncomputable def E_im_StaticPlan_2 : Env := envOf [(96, D_im_Season_isPlan)]
noncomputable def Z_im_StaticPlan_2 : Nat → Nat → List Nat := fun _ _ => []
noncomputable def O_im_StaticPlan_2 : List (Nat × LD) := []
noncomputable def C_im_StaticPlan_2 : Code := (f95.body).getD .skip
noncomputable def F_slices_Clone_Sint_int (a1_ : List (Int)) : Option (List Int) := cloneF a1_
noncomputable def D_slices_Clone_Sint_int : FD := fdClone
noncomputable def S_im_StaticPlan_1_0 (k : (List (Int)) × (Int)) (v : (Int) × (List (List (Int)))) : Tr (((Int) × (List (List (Int)))) ⊕ (List (List (Int)))) :=
 .t (decide (v.1 < k.2))
  (.c (List Int) (F_slices_Clone_Sint_int k.1) fun r5_ =>
   .g (decide ((List.length v.2 + 1) * 24 ≤ 140737488355328)) <|
   .l (.inl ((IntKind.wrap .i64 (v.1 + (1 : Int))), (List.set (v.2 ++ [[]]) (List.length v.2) r5_))))
  (.l (.inr v.2))
noncomputable def L_im_StaticPlan_1_0 (k : (List (Int)) × (Int)) (v : (Int) × (List (List (Int)))) : Option (List (List (Int))) := iter (fun v => (S_im_StaticPlan_1_0 k v).ev) v
noncomputable def DL_im_StaticPlan_1_0 : LD where
 head := { acts := [], S := { slots := [0, 4, 8, 9], sh := (.cons (.dat (.slice (.int .i64))) (.cons (.arr 5) (.cons (.dat (.int .i64)) (.cons (.dat (.int .i64)) .nil)))), obs := [(5, .rows 22 3 (.int .i64))] } }
 exits := [(0, { acts := [], S := { slots := [4], sh := (.cons (.arr 5) .nil), obs := [(5, .rows 22 3 (.int .i64))] } })]
 rets := { acts := [], S := { slots := [], sh := .nil, obs := [] } }
 K := (List (Int)) × (Int)
 V := (Int) × (List (List (Int)))
 R := List (List (Int))
 join := fun k v => ((k.1, ((), (k.2, (v.1, ())))), (v.2, ()))
 sk := fun t => (t.1.1, t.1.2.2.1)
 sv := fun t => (t.1.2.2.2.1, t.2.1)
 step := S_im_StaticPlan_1_0
 leaf := fun _ r => .l (.exit 0 (mkSt ({ slots := [4], sh := (.cons (.arr 5) .nil), obs := [(5, .rows 22 3 (.int .i64))] }) (((), ()), (r, ()))))
noncomputable def T_im_StaticPlan_1 (a1_ : List (Int)) (_a2_ : List (Int)) (_a3_ : List (Int)) (_a4_ : List (Int)) (a5_ : List (List (List (Int)))) : Tr (List (List (Int))) :=
 .c (List (List (Int))) (L_im_StaticPlan_1_0 (a1_, ((List.length a5_ : Nat) : Int)) ((0 : Int), ([] : List (List (Int))))) fun r7_ =>
 .l r7_
noncomputable def F_im_StaticPlan_1 (a1_ : List (Int)) (a2_ : List (Int)) (a3_ : List (Int)) (a4_ : List (Int)) (a5_ : List (List (List (Int)))) : Option (List (List (Int))) := (T_im_StaticPlan_1 a1_ a2_ a3_ a4_ a5_).ev
noncomputable def A_im_StaticPlan_1 : Sh := (.cons (.dat (.slice (.int .i64))) (.cons (.ptr (.cons (.dat (.slice (.int .i64))) (.cons (.dat (.slice (.int .i64))) (.cons (.dat (.slice (.int .i64))) (.cons (.dat (.slice (.slice (.slice (.int .i64))))) .nil))))) .nil))
noncomputable def I_im_StaticPlan_1 : List (Nat × OSh) := []
noncomputable def K_im_StaticPlan_1 : RetK := { acts := [.ren 5 0], res := [.tmp 3], sh := (.cons (.arr 0) .nil), obs := [(0, .rows 22 3 (.int .i64))], pins := [] }
noncomputable def D_im_StaticPlan_1 : FD where
 A := A_im_StaticPlan_1
 ins := I_im_StaticPlan_1
 lend := []
 R := List (List (Int))
 F := fun x => F_im_StaticPlan_1 x.1.1 x.1.2.1.1 x.1.2.1.2.1 x.1.2.1.2.2.1 x.1.2.1.2.2.2.1
 emb := fun r => ([.arr 0], [(0, .rows 22 3 (.int .i64) r none)])
noncomputable def E_im_StaticPlan_1 : Env := envOf [(87, D_slices_Clone_Sint_int)]
noncomputable def Z_im_StaticPlan_1 : Nat → Nat → List Nat := fun r i => match look [(1, [(0, [1000000])])] r with
 | some l => (look l i).getD []
 | none => []
noncomputable def O_im_StaticPlan_1 : List (Nat × LD) := [(0, DL_im_StaticPlan_1_0)]
noncomputable def C_im_StaticPlan_1 : Code := (f93.body).getD .skip
noncomputable def S_im_least_0 (k : ((HL [(.slice (.int .i64))] → Option (Int))) × ((List (List (Int))) × (Int))) (v : (List (Int)) × (Int)) : Tr (((List (Int)) × (Int)) ⊕ (List (Int))) :=
 .t (decide (v.2 < k.2.2))
  (.g (inR v.2 (List.length k.2.1)) <|
   .c (Int) (k.1 ((List.getD k.2.1 (Int.toNat v.2) ([] : List (Int))), ())) fun r6_ =>
   .c (Int) (k.1 (v.1, ())) fun r7_ =>
   .t (decide (r6_ < r7_))
    (.l (.inl ((List.getD k.2.1 (Int.toNat v.2) ([] : List (Int))), (IntKind.wrap .i64 (v.2 + (1 : Int))))))
    (.l (.inl (v.1, (IntKind.wrap .i64 (v.2 + (1 : Int)))))))
  (.l (.inr v.1))
noncomputable def L_im_least_0 (k : ((HL [(.slice (.int .i64))] → Option (Int))) × ((List (List (Int))) × (Int))) (v : (List (Int)) × (Int)) : Option (List (Int)) := iter (fun v => (S_im_least_0 k v).ev) v
noncomputable def DL_im_least_0 : LD where
 head := { acts := [], S := { slots := [1, 5, 11, 12, 13], sh := (.cons (.clo [(.slice (.int .i64))] (.int .i64)) (.cons (.dat (.slice (.int .i64))) (.cons (.dat (.slice (.slice (.int .i64)))) (.cons (.dat (.int .i64)) (.cons (.dat (.int .i64)) .nil))))), obs := [] } }
 exits := [(0, { acts := [], S := { slots := [5], sh := (.cons (.dat (.slice (.int .i64))) .nil), obs := [] } })]
 rets := { acts := [], S := { slots := [], sh := .nil, obs := [] } }
 K := ((HL [(.slice (.int .i64))] → Option (Int))) × ((List (List (Int))) × (Int))
 V := (List (Int)) × (Int)
 R := List (Int)
 join := fun k v => ((k.1, (v.1, (k.2.1, (k.2.2, (v.2, ()))))), ())
 sk := fun t => (t.1.1, (t.1.2.2.1, t.1.2.2.2.1))
 sv := fun t => (t.1.2.1, t.1.2.2.2.2.1)
 step := S_im_least_0
 leaf := fun _ r => .l (.exit 0 (mkSt ({ slots := [5], sh := (.cons (.dat (.slice (.int .i64))) .nil), obs := [] }) ((r, ()), ())))
noncomputable def T_im_least (a1_ : List (List (Int))) (a2_ : (HL [(.slice (.int .i64))] → Option (Int))) : Tr (List (Int)) :=
 .g (inR (0 : Int) (List.length a1_)) <|
 .c (List (Int)) (L_im_least_0 (a2_, (a1_, ((List.length a1_ : Nat) : Int))) ((List.getD a1_ (Int.toNat (0 : Int)) ([] : List (Int))), (0 : Int))) fun r9_ =>
 .l r9_
noncomputable def F_im_least (a1_ : List (List (Int))) (a2_ : (HL [(.slice (.int .i64))] → Option (Int))) : Option (List (Int)) := (T_im_least a1_ a2_).ev
noncomputable def A_im_least : Sh := (.cons (.dat (.slice (.slice (.int .i64)))) (.cons (.clo [(.slice (.int .i64))] (.int .i64)) .nil))
noncomputable def I_im_least : List (Nat × OSh) := []
noncomputable def K_im_least : RetK := { acts := [], res := [.tmp 4], sh := (.cons (.dat (.slice (.int .i64))) .nil), obs := [], pins := [] }
noncomputable def D_im_least : FD where
 A := A_im_least
 ins := I_im_least
 lend := []
 R := List (Int)
 F := fun x => F_im_least x.1.1 x.1.2.1
 emb := fun r => ([.dat (.slice (.int .i64)) r], [])
noncomputable def E_im_least : Env := envOf []
noncomputable def Z_im_least : Nat → Nat → List Nat := fun _ _ => []
noncomputable def O_im_least : List (Nat × LD) := [(0, DL_im_least_0)]
noncomputable def C_im_least : Code := (f83.body).getD .skip
noncomputable def S_im_bagOf_0 (k : (List (Int)) × (Int)) (v : (Int) × (Int)) : Tr (((Int) × (Int)) ⊕ (Int)) :=
 .t (decide (v.2 < k.2))
  (.g (inR v.2 (List.length k.1)) <|
   .g (decide ((0 : Int) ≤ (List.getD k.1 (Int.toNat v.2) (0 : Int)))) <|
   .l (.inl ((IntKind.wrap .u64 (BitVec.toNat ((BitVec.ofInt (IntKind.bits .u64) v.1) ||| (BitVec.ofInt (IntKind.bits .u64) (IntKind.wrap .u64 ((1 : Int) * 2 ^ (min (Int.toNat (List.getD k.1 (Int.toNat v.2) (0 : Int))) (IntKind.bits .u64)))))))), (IntKind.wrap .i64 (v.2 + (1 : Int))))))
  (.l (.inr v.1))
noncomputable def L_im_bagOf_0 (k : (List (Int)) × (Int)) (v : (Int) × (Int)) : Option (Int) := iter (fun v => (S_im_bagOf_0 k v).ev) v
noncomputable def DL_im_bagOf_0 : LD where
 head := { acts := [], S := { slots := [3, 6, 7, 8], sh := (.cons (.dat (.int .u64)) (.cons (.dat (.slice (.int .i64))) (.cons (.dat (.int .i64)) (.cons (.dat (.int .i64)) .nil)))), obs := [] } }
 exits := [(0, { acts := [], S := { slots := [3], sh := (.cons (.dat (.int .u64)) .nil), obs := [] } })]
 rets := { acts := [], S := { slots := [], sh := .nil, obs := [] } }
 K := (List (Int)) × (Int)
 V := (Int) × (Int)
 R := Int
 join := fun k v => ((v.1, (k.1, (k.2, (v.2, ())))), ())
 sk := fun t => (t.1.2.1, t.1.2.2.1)
 sv := fun t => (t.1.1, t.1.2.2.2.1)
 step := S_im_bagOf_0
 leaf := fun _ r => .l (.exit 0 (mkSt ({ slots := [3], sh := (.cons (.dat (.int .u64)) .nil), obs := [] }) ((r, ()), ())))
noncomputable def T_im_bagOf (a1_ : List (Int)) : Tr (Int) :=
 .c (Int) (L_im_bagOf_0 (a1_, ((List.length a1_ : Nat) : Int)) ((0 : Int), (0 : Int))) fun r6_ =>
 .l r6_
noncomputable def F_im_bagOf (a1_ : List (Int)) : Option (Int) := (T_im_bagOf a1_).ev
noncomputable def A_im_bagOf : Sh := (.cons (.dat (.slice (.int .i64))) .nil)
noncomputable def I_im_bagOf : List (Nat × OSh) := []
noncomputable def K_im_bagOf : RetK := { acts := [], res := [.tmp 2], sh := (.cons (.dat (.int .u64)) .nil), obs := [], pins := [] }
noncomputable def D_im_bagOf : FD where
 A := A_im_bagOf
 ins := I_im_bagOf
 lend := []
 R := Int
 F := fun x => F_im_bagOf x.1.1
 emb := fun r => ([.dat (.int .u64) r], [])
noncomputable def E_im_bagOf : Env := envOf []
noncomputable def Z_im_bagOf : Nat → Nat → List Nat := fun _ _ => []
noncomputable def O_im_bagOf : List (Nat × LD) := [(0, DL_im_bagOf_0)]
noncomputable def C_im_bagOf : Code := (f91.body).getD .skip
end Go.Proofs.Ytlmbhkmaflhagaa
