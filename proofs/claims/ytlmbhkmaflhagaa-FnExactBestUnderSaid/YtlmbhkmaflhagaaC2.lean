import Derived.Test.YtlmbhkmaflhagaaC1
namespace Go.Proofs.Ytlmbhkmaflhagaa
open Go.Proofs.Try
theorem mixed : prog.follows .mixedOrders = true := by kernel_rfl
theorem tabOK : TabOK prog tt := tab_ok (by kernel_rfl)
theorem e_lw_szIntS : ∀ x : D_lw_szIntS.T, ((acode E_lw_szIntS tt Z_lw_szIntS (orcOf O_lw_szIntS) C_lw_szIntS (entry A_lw_szIntS I_lw_szIntS x)).map (keepRet tt K_lw_szIntS)).ev = ((T_lw_szIntS x.1.1 x.1.2.1).map fun r => some ((((r, ()), ())) : K_lw_szIntS.T)).ev := fun _ => by kernel_rfl
theorem o_lw_szIntS : LoopsOK E_lw_szIntS tt Z_lw_szIntS O_lw_szIntS C_lw_szIntS := by
  have h : loopsOf C_lw_szIntS = [] := by kernel_rfl
  unfold LoopsOK
  rw [h]
  exact fun _ h => absurd h List.not_mem_nil
theorem ok_lw_szIntS : FnOK prog E_lw_szIntS tt 64 D_lw_szIntS K_lw_szIntS Z_lw_szIntS O_lw_szIntS f64 C_lw_szIntS (fun x => T_lw_szIntS x.1.1 x.1.2.1) (fun r => ((r, ()), ())) where
  at_ := func64
  name := by kernel_rfl
  body := by kernel_rfl
  res := by kernel_rfl
  ok := by kernel_rfl
  arity := fun _ => Nat.le_of_ble_eq_true (by kernel_rfl)
  pin := fun _ => by kernel_rfl
  chk := by kernel_rfl
  loops := o_lw_szIntS
  run := e_lw_szIntS
  F := fun _ => rfl
  emb := fun _ => rfl
theorem fd_lw_szIntS : FDok prog (64, D_lw_szIntS) := fn_ok mixed (env_ok (fun _ h => absurd h List.not_mem_nil)) tabOK ok_lw_szIntS
theorem e_lw_szIntSS : ∀ x : D_lw_szIntSS.T, ((acode E_lw_szIntSS tt Z_lw_szIntSS (orcOf O_lw_szIntSS) C_lw_szIntSS (entry A_lw_szIntSS I_lw_szIntSS x)).map (keepRet tt K_lw_szIntSS)).ev = ((T_lw_szIntSS x.1.1 x.1.2.1).map fun r => some ((((r, ()), ())) : K_lw_szIntSS.T)).ev := fun _ => by kernel_rfl
noncomputable def B_lw_szIntSS_0 : Code := ((loopsOf C_lw_szIntSS).find? fun p => Nat.beq p.1 0).elim .skip (·.2)
theorem l_lw_szIntSS_0 : (DL_lw_szIntSS_0).OK E_lw_szIntSS tt Z_lw_szIntSS (orcOf O_lw_szIntSS) B_lw_szIntSS_0 where
  ok := by kernel_rfl
  oke := by kernel_rfl
  okr := by kernel_rfl
  eta := fun _ => rfl
  step := fun _ _ => by kernel_rfl
theorem o_lw_szIntSS : LoopsOK E_lw_szIntSS tt Z_lw_szIntSS O_lw_szIntSS C_lw_szIntSS := by
  have h : loopsOf C_lw_szIntSS = [(0, B_lw_szIntSS_0)] := by kernel_rfl
  unfold LoopsOK
  rw [h]
  exact List.forall_mem_cons.2 ⟨fun d h => (by have e : some (DL_lw_szIntSS_0) = some d := h; cases e; exact l_lw_szIntSS_0), fun _ h => absurd h List.not_mem_nil⟩
theorem ok_lw_szIntSS : FnOK prog E_lw_szIntSS tt 18 D_lw_szIntSS K_lw_szIntSS Z_lw_szIntSS O_lw_szIntSS f18 C_lw_szIntSS (fun x => T_lw_szIntSS x.1.1 x.1.2.1) (fun r => ((r, ()), ())) where
  at_ := func18
  name := by kernel_rfl
  body := by kernel_rfl
  res := by kernel_rfl
  ok := by kernel_rfl
  arity := fun _ => Nat.le_of_ble_eq_true (by kernel_rfl)
  pin := fun _ => by kernel_rfl
  chk := by kernel_rfl
  loops := o_lw_szIntSS
  run := e_lw_szIntSS
  F := fun _ => rfl
  emb := fun _ => rfl
theorem fd_lw_szIntSS : FDok prog (18, D_lw_szIntSS) := fn_ok mixed (env_ok (List.forall_mem_cons.2 ⟨fd_lw_szIntS, fun _ h => absurd h List.not_mem_nil⟩)) tabOK ok_lw_szIntSS
theorem e_lw_szField : ∀ x : D_lw_szField.T, ((acode E_lw_szField tt Z_lw_szField (orcOf O_lw_szField) C_lw_szField (entry A_lw_szField I_lw_szField x)).map (keepRet tt K_lw_szField)).ev = ((T_lw_szField x.1.1.1 x.1.1.2.1 x.1.2.1).map fun r => some ((((r, ()), ())) : K_lw_szField.T)).ev := fun _ => by kernel_rfl
theorem o_lw_szField : LoopsOK E_lw_szField tt Z_lw_szField O_lw_szField C_lw_szField := by
  have h : loopsOf C_lw_szField = [] := by kernel_rfl
  unfold LoopsOK
  rw [h]
  exact fun _ h => absurd h List.not_mem_nil
theorem ok_lw_szField : FnOK prog E_lw_szField tt 36 D_lw_szField K_lw_szField Z_lw_szField O_lw_szField f36 C_lw_szField (fun x => T_lw_szField x.1.1.1 x.1.1.2.1 x.1.2.1) (fun r => ((r, ()), ())) where
  at_ := func36
  name := by kernel_rfl
  body := by kernel_rfl
  res := by kernel_rfl
  ok := by kernel_rfl
  arity := fun _ => Nat.le_of_ble_eq_true (by kernel_rfl)
  pin := fun _ => by kernel_rfl
  chk := by kernel_rfl
  loops := o_lw_szField
  run := e_lw_szField
  F := fun _ => rfl
  emb := fun _ => rfl
theorem fd_lw_szField : FDok prog (36, D_lw_szField) := fn_ok mixed (env_ok (List.forall_mem_cons.2 ⟨fd_lw_szIntS, List.forall_mem_cons.2 ⟨fd_lw_szIntSS, fun _ h => absurd h List.not_mem_nil⟩⟩)) tabOK ok_lw_szField
theorem e_lw_toIntS : ∀ x : D_lw_toIntS.T, ((acode E_lw_toIntS tt Z_lw_toIntS (orcOf O_lw_toIntS) C_lw_toIntS (entry A_lw_toIntS I_lw_toIntS x)).map (keepRet tt K_lw_toIntS)).ev = ((T_lw_toIntS x.1.1).map fun r => some (((((), ()), (r, ()))) : K_lw_toIntS.T)).ev := fun _ => by kernel_rfl
noncomputable def B_lw_toIntS_0 : Code := ((loopsOf C_lw_toIntS).find? fun p => Nat.beq p.1 0).elim .skip (·.2)
theorem l_lw_toIntS_0 : (DL_lw_toIntS_0).OK E_lw_toIntS tt Z_lw_toIntS (orcOf O_lw_toIntS) B_lw_toIntS_0 where
  ok := by kernel_rfl
  oke := by kernel_rfl
  okr := by kernel_rfl
  eta := fun _ => rfl
  step := fun _ _ => by kernel_rfl
theorem o_lw_toIntS : LoopsOK E_lw_toIntS tt Z_lw_toIntS O_lw_toIntS C_lw_toIntS := by
  have h : loopsOf C_lw_toIntS = [(0, B_lw_toIntS_0)] := by kernel_rfl
  unfold LoopsOK
  rw [h]
  exact List.forall_mem_cons.2 ⟨fun d h => (by have e : some (DL_lw_toIntS_0) = some d := h; cases e; exact l_lw_toIntS_0), fun _ h => absurd h List.not_mem_nil⟩
theorem ok_lw_toIntS : FnOK prog E_lw_toIntS tt 39 D_lw_toIntS K_lw_toIntS Z_lw_toIntS O_lw_toIntS f39 C_lw_toIntS (fun x => T_lw_toIntS x.1.1) (fun r => (((), ()), (r, ()))) where
  at_ := func39
  name := by kernel_rfl
  body := by kernel_rfl
  res := by kernel_rfl
  ok := by kernel_rfl
  arity := fun _ => Nat.le_of_ble_eq_true (by kernel_rfl)
  pin := fun _ => by kernel_rfl
  chk := by kernel_rfl
  loops := o_lw_toIntS
  run := e_lw_toIntS
  F := fun _ => rfl
  emb := fun _ => rfl
theorem fd_lw_toIntS : FDok prog (39, D_lw_toIntS) := fn_ok mixed (env_ok (fun _ h => absurd h List.not_mem_nil)) tabOK ok_lw_toIntS
theorem e_lw_toIntSS : ∀ x : D_lw_toIntSS.T, ((acode E_lw_toIntSS tt Z_lw_toIntSS (orcOf O_lw_toIntSS) C_lw_toIntSS (entry A_lw_toIntSS I_lw_toIntSS x)).map (keepRet tt K_lw_toIntSS)).ev = ((T_lw_toIntSS x.1.1).map fun r => some (((((), ()), (r, ()))) : K_lw_toIntSS.T)).ev := fun _ => by kernel_rfl
noncomputable def B_lw_toIntSS_0 : Code := ((loopsOf C_lw_toIntSS).find? fun p => Nat.beq p.1 0).elim .skip (·.2)
theorem l_lw_toIntSS_0 : (DL_lw_toIntSS_0).OK E_lw_toIntSS tt Z_lw_toIntSS (orcOf O_lw_toIntSS) B_lw_toIntSS_0 where
  ok := by kernel_rfl
  oke := by kernel_rfl
  okr := by kernel_rfl
  eta := fun _ => rfl
  step := fun _ _ => by kernel_rfl
theorem o_lw_toIntSS : LoopsOK E_lw_toIntSS tt Z_lw_toIntSS O_lw_toIntSS C_lw_toIntSS := by
  have h : loopsOf C_lw_toIntSS = [(0, B_lw_toIntSS_0)] := by kernel_rfl
  unfold LoopsOK
  rw [h]
  exact List.forall_mem_cons.2 ⟨fun d h => (by have e : some (DL_lw_toIntSS_0) = some d := h; cases e; exact l_lw_toIntSS_0), fun _ h => absurd h List.not_mem_nil⟩
theorem ok_lw_toIntSS : FnOK prog E_lw_toIntSS tt 20 D_lw_toIntSS K_lw_toIntSS Z_lw_toIntSS O_lw_toIntSS f20 C_lw_toIntSS (fun x => T_lw_toIntSS x.1.1) (fun r => (((), ()), (r, ()))) where
  at_ := func20
  name := by kernel_rfl
  body := by kernel_rfl
  res := by kernel_rfl
  ok := by kernel_rfl
  arity := fun _ => Nat.le_of_ble_eq_true (by kernel_rfl)
  pin := fun _ => by kernel_rfl
  chk := by kernel_rfl
  loops := o_lw_toIntSS
  run := e_lw_toIntSS
  F := fun _ => rfl
  emb := fun _ => rfl
theorem fd_lw_toIntSS : FDok prog (20, D_lw_toIntSS) := fn_ok mixed (env_ok (List.forall_mem_cons.2 ⟨fd_lw_toIntS, fun _ h => absurd h List.not_mem_nil⟩)) tabOK ok_lw_toIntSS
theorem e_lw_toField : ∀ x : D_lw_toField.T, ((acode E_lw_toField tt Z_lw_toField (orcOf O_lw_toField) C_lw_toField (entry A_lw_toField I_lw_toField x)).map (keepRet tt K_lw_toField)).ev = ((T_lw_toField x.1.1.1 x.1.1.2.1).map fun r => some ((((((), ((), ())), ()), (r.1, (r.2, ())))) : K_lw_toField.T)).ev := fun _ => by kernel_rfl
theorem o_lw_toField : LoopsOK E_lw_toField tt Z_lw_toField O_lw_toField C_lw_toField := by
  have h : loopsOf C_lw_toField = [] := by kernel_rfl
  unfold LoopsOK
  rw [h]
  exact fun _ h => absurd h List.not_mem_nil
theorem ok_lw_toField : FnOK prog E_lw_toField tt 38 D_lw_toField K_lw_toField Z_lw_toField O_lw_toField f38 C_lw_toField (fun x => T_lw_toField x.1.1.1 x.1.1.2.1) (fun r => ((((), ((), ())), ()), (r.1, (r.2, ())))) where
  at_ := func38
  name := by kernel_rfl
  body := by kernel_rfl
  res := by kernel_rfl
  ok := by kernel_rfl
  arity := fun _ => Nat.le_of_ble_eq_true (by kernel_rfl)
  pin := fun _ => by kernel_rfl
  chk := by kernel_rfl
  loops := o_lw_toField
  run := e_lw_toField
  F := fun _ => rfl
  emb := fun _ => rfl
theorem fd_lw_toField : FDok prog (38, D_lw_toField) := fn_ok mixed (env_ok (List.forall_mem_cons.2 ⟨fd_lw_toIntS, List.forall_mem_cons.2 ⟨fd_lw_toIntSS, fun _ h => absurd h List.not_mem_nil⟩⟩)) tabOK ok_lw_toField
theorem e_sp_l1In : ∀ x : D_sp_l1In.T, ((acode E_sp_l1In tt Z_sp_l1In (orcOf O_sp_l1In) C_sp_l1In (entry A_sp_l1In I_sp_l1In x)).map (keepRet tt K_sp_l1In)).ev = ((T_sp_l1In x.1.1 x.1.2.1 x.1.2.2.1).map fun r => some ((((r, ()), ())) : K_sp_l1In.T)).ev := fun _ => by kernel_rfl
theorem o_sp_l1In : LoopsOK E_sp_l1In tt Z_sp_l1In O_sp_l1In C_sp_l1In := by
  have h : loopsOf C_sp_l1In = [] := by kernel_rfl
  unfold LoopsOK
  rw [h]
  exact fun _ h => absurd h List.not_mem_nil
theorem ok_sp_l1In : FnOK prog E_sp_l1In tt 134 D_sp_l1In K_sp_l1In Z_sp_l1In O_sp_l1In f134 C_sp_l1In (fun x => T_sp_l1In x.1.1 x.1.2.1 x.1.2.2.1) (fun r => ((r, ()), ())) where
  at_ := func134
  name := by kernel_rfl
  body := by kernel_rfl
  res := by kernel_rfl
  ok := by kernel_rfl
  arity := fun _ => Nat.le_of_ble_eq_true (by kernel_rfl)
  pin := fun _ => by kernel_rfl
  chk := by kernel_rfl
  loops := o_sp_l1In
  run := e_sp_l1In
  F := fun _ => rfl
  emb := fun _ => rfl
theorem fd_sp_l1In : FDok prog (134, D_sp_l1In) := fn_ok mixed (env_ok (fun _ h => absurd h List.not_mem_nil)) tabOK ok_sp_l1In
theorem e_sp_l2Row : ∀ x : D_sp_l2Row.T, ((acode E_sp_l2Row tt Z_sp_l2Row (orcOf O_sp_l2Row) C_sp_l2Row (entry A_sp_l2Row I_sp_l2Row x)).map (keepRet tt K_sp_l2Row)).ev = ((T_sp_l2Row x.1.1 x.1.2.1 x.1.2.2.1).map fun r => some ((((r, ()), ())) : K_sp_l2Row.T)).ev := fun _ => by kernel_rfl
noncomputable def B_sp_l2Row_0 : Code := ((loopsOf C_sp_l2Row).find? fun p => Nat.beq p.1 0).elim .skip (·.2)
theorem l_sp_l2Row_0 : (DL_sp_l2Row_0).OK E_sp_l2Row tt Z_sp_l2Row (orcOf O_sp_l2Row) B_sp_l2Row_0 where
  ok := by kernel_rfl
  oke := by kernel_rfl
  okr := by kernel_rfl
  eta := fun _ => rfl
  step := fun _ _ => by kernel_rfl
theorem o_sp_l2Row : LoopsOK E_sp_l2Row tt Z_sp_l2Row O_sp_l2Row C_sp_l2Row := by
  have h : loopsOf C_sp_l2Row = [(0, B_sp_l2Row_0)] := by kernel_rfl
  unfold LoopsOK
  rw [h]
  exact List.forall_mem_cons.2 ⟨fun d h => (by have e : some (DL_sp_l2Row_0) = some d := h; cases e; exact l_sp_l2Row_0), fun _ h => absurd h List.not_mem_nil⟩
theorem ok_sp_l2Row : FnOK prog E_sp_l2Row tt 133 D_sp_l2Row K_sp_l2Row Z_sp_l2Row O_sp_l2Row f133 C_sp_l2Row (fun x => T_sp_l2Row x.1.1 x.1.2.1 x.1.2.2.1) (fun r => ((r, ()), ())) where
  at_ := func133
  name := by kernel_rfl
  body := by kernel_rfl
  res := by kernel_rfl
  ok := by kernel_rfl
  arity := fun _ => Nat.le_of_ble_eq_true (by kernel_rfl)
  pin := fun _ => by kernel_rfl
  chk := by kernel_rfl
  loops := o_sp_l2Row
  run := e_sp_l2Row
  F := fun _ => rfl
  emb := fun _ => rfl
theorem fd_sp_l2Row : FDok prog (133, D_sp_l2Row) := fn_ok mixed (env_ok (List.forall_mem_cons.2 ⟨fd_sp_l1In, fun _ h => absurd h List.not_mem_nil⟩)) tabOK ok_sp_l2Row
theorem e_sp_l2Good : ∀ x : D_sp_l2Good.T, ((acode E_sp_l2Good tt Z_sp_l2Good (orcOf O_sp_l2Good) C_sp_l2Good (entry A_sp_l2Good I_sp_l2Good x)).map (keepRet tt K_sp_l2Good)).ev = ((T_sp_l2Good x.1.1.1 x.1.1.2.1).map fun r => some ((((r, ()), ())) : K_sp_l2Good.T)).ev := fun _ => by kernel_rfl
noncomputable def B_sp_l2Good_0 : Code := ((loopsOf C_sp_l2Good).find? fun p => Nat.beq p.1 0).elim .skip (·.2)
theorem l_sp_l2Good_0 : (DL_sp_l2Good_0).OK E_sp_l2Good tt Z_sp_l2Good (orcOf O_sp_l2Good) B_sp_l2Good_0 where
  ok := by kernel_rfl
  oke := by kernel_rfl
  okr := by kernel_rfl
  eta := fun _ => rfl
  step := fun _ _ => by kernel_rfl
theorem o_sp_l2Good : LoopsOK E_sp_l2Good tt Z_sp_l2Good O_sp_l2Good C_sp_l2Good := by
  have h : loopsOf C_sp_l2Good = [(0, B_sp_l2Good_0)] := by kernel_rfl
  unfold LoopsOK
  rw [h]
  exact List.forall_mem_cons.2 ⟨fun d h => (by have e : some (DL_sp_l2Good_0) = some d := h; cases e; exact l_sp_l2Good_0), fun _ h => absurd h List.not_mem_nil⟩
theorem ok_sp_l2Good : FnOK prog E_sp_l2Good tt 100 D_sp_l2Good K_sp_l2Good Z_sp_l2Good O_sp_l2Good f100 C_sp_l2Good (fun x => T_sp_l2Good x.1.1.1 x.1.1.2.1) (fun r => ((r, ()), ())) where
  at_ := func100
  name := by kernel_rfl
  body := by kernel_rfl
  res := by kernel_rfl
  ok := by kernel_rfl
  arity := fun _ => Nat.le_of_ble_eq_true (by kernel_rfl)
  pin := fun _ => by kernel_rfl
  chk := by kernel_rfl
  loops := o_sp_l2Good
  run := e_sp_l2Good
  F := fun _ => rfl
  emb := fun _ => rfl
theorem fd_sp_l2Good : FDok prog (100, D_sp_l2Good) := fn_ok mixed (env_ok (List.forall_mem_cons.2 ⟨fd_sp_l2Row, List.forall_mem_cons.2 ⟨fd_sp_l1In, fun _ h => absurd h List.not_mem_nil⟩⟩)) tabOK ok_sp_l2Good
theorem e_sp_l11Objective : ∀ x : D_sp_l11Objective.T, ((acode E_sp_l11Objective tt Z_sp_l11Objective (orcOf O_sp_l11Objective) C_sp_l11Objective (entry A_sp_l11Objective I_sp_l11Objective x)).map (keepRet tt K_sp_l11Objective)).ev = ((T_sp_l11Objective x.1.1).map fun r => some ((((r, ()), ())) : K_sp_l11Objective.T)).ev := fun _ => by kernel_rfl
theorem o_sp_l11Objective : LoopsOK E_sp_l11Objective tt Z_sp_l11Objective O_sp_l11Objective C_sp_l11Objective := by
  have h : loopsOf C_sp_l11Objective = [] := by kernel_rfl
  unfold LoopsOK
  rw [h]
  exact fun _ h => absurd h List.not_mem_nil
theorem ok_sp_l11Objective : FnOK prog E_sp_l11Objective tt 160 D_sp_l11Objective K_sp_l11Objective Z_sp_l11Objective O_sp_l11Objective f160 C_sp_l11Objective (fun x => T_sp_l11Objective x.1.1) (fun r => ((r, ()), ())) where
  at_ := func160
  name := by kernel_rfl
  body := by kernel_rfl
  res := by kernel_rfl
  ok := by kernel_rfl
  arity := fun _ => Nat.le_of_ble_eq_true (by kernel_rfl)
  pin := fun _ => by kernel_rfl
  chk := by kernel_rfl
  loops := o_sp_l11Objective
  run := e_sp_l11Objective
  F := fun _ => rfl
  emb := fun _ => rfl
theorem fd_sp_l11Objective : FDok prog (160, D_sp_l11Objective) := fn_ok mixed (env_ok (List.forall_mem_cons.2 ⟨fd_sp_l1In, fun _ h => absurd h List.not_mem_nil⟩)) tabOK ok_sp_l11Objective
theorem e_sp_l11Two : ∀ x : D_sp_l11Two.T, ((acode E_sp_l11Two tt Z_sp_l11Two (orcOf O_sp_l11Two) C_sp_l11Two (entry A_sp_l11Two I_sp_l11Two x)).map (keepRet tt K_sp_l11Two)).ev = ((T_sp_l11Two x.1.1.1 x.1.1.2.1 x.1.2.1 x.1.2.2.1).map fun r => some ((((r, ()), ())) : K_sp_l11Two.T)).ev := fun _ => by kernel_rfl
theorem o_sp_l11Two : LoopsOK E_sp_l11Two tt Z_sp_l11Two O_sp_l11Two C_sp_l11Two := by
  have h : loopsOf C_sp_l11Two = [] := by kernel_rfl
  unfold LoopsOK
  rw [h]
  exact fun _ h => absurd h List.not_mem_nil
theorem ok_sp_l11Two : FnOK prog E_sp_l11Two tt 113 D_sp_l11Two K_sp_l11Two Z_sp_l11Two O_sp_l11Two f113 C_sp_l11Two (fun x => T_sp_l11Two x.1.1.1 x.1.1.2.1 x.1.2.1 x.1.2.2.1) (fun r => ((r, ()), ())) where
  at_ := func113
  name := by kernel_rfl
  body := by kernel_rfl
  res := by kernel_rfl
  ok := by kernel_rfl
  arity := fun _ => Nat.le_of_ble_eq_true (by kernel_rfl)
  pin := fun _ => by kernel_rfl
  chk := by kernel_rfl
  loops := o_sp_l11Two
  run := e_sp_l11Two
  F := fun _ => rfl
  emb := fun _ => rfl
theorem fd_sp_l11Two : FDok prog (113, D_sp_l11Two) := fn_ok mixed (env_ok (List.forall_mem_cons.2 ⟨fd_sp_l2Good, List.forall_mem_cons.2 ⟨fd_sp_l11Objective, fun _ h => absurd h List.not_mem_nil⟩⟩)) tabOK ok_sp_l11Two
theorem e_sp_l2Bits : ∀ x : D_sp_l2Bits.T, ((acode E_sp_l2Bits tt Z_sp_l2Bits (orcOf O_sp_l2Bits) C_sp_l2Bits (entry A_sp_l2Bits I_sp_l2Bits x)).map (keepRet tt K_sp_l2Bits)).ev = ((T_sp_l2Bits x.1.1 x.1.2.1).map fun r => some (((((), ()), (r, ()))) : K_sp_l2Bits.T)).ev := fun _ => by kernel_rfl
noncomputable def B_sp_l2Bits_0 : Code := ((loopsOf C_sp_l2Bits).find? fun p => Nat.beq p.1 0).elim .skip (·.2)
theorem l_sp_l2Bits_0 : (DL_sp_l2Bits_0).OK E_sp_l2Bits tt Z_sp_l2Bits (orcOf O_sp_l2Bits) B_sp_l2Bits_0 where
  ok := by kernel_rfl
  oke := by kernel_rfl
  okr := by kernel_rfl
  eta := fun _ => rfl
  step := fun _ _ => by kernel_rfl
theorem o_sp_l2Bits : LoopsOK E_sp_l2Bits tt Z_sp_l2Bits O_sp_l2Bits C_sp_l2Bits := by
  have h : loopsOf C_sp_l2Bits = [(0, B_sp_l2Bits_0)] := by kernel_rfl
  unfold LoopsOK
  rw [h]
  exact List.forall_mem_cons.2 ⟨fun d h => (by have e : some (DL_sp_l2Bits_0) = some d := h; cases e; exact l_sp_l2Bits_0), fun _ h => absurd h List.not_mem_nil⟩
theorem ok_sp_l2Bits : FnOK prog E_sp_l2Bits tt 161 D_sp_l2Bits K_sp_l2Bits Z_sp_l2Bits O_sp_l2Bits f161 C_sp_l2Bits (fun x => T_sp_l2Bits x.1.1 x.1.2.1) (fun r => (((), ()), (r, ()))) where
  at_ := func161
  name := by kernel_rfl
  body := by kernel_rfl
  res := by kernel_rfl
  ok := by kernel_rfl
  arity := fun _ => Nat.le_of_ble_eq_true (by kernel_rfl)
  pin := fun _ => by kernel_rfl
  chk := by kernel_rfl
  loops := o_sp_l2Bits
  run := e_sp_l2Bits
  F := fun _ => rfl
  emb := fun _ => rfl
theorem fd_sp_l2Bits : FDok prog (161, D_sp_l2Bits) := fn_ok mixed (env_ok (fun _ h => absurd h List.not_mem_nil)) tabOK ok_sp_l2Bits
theorem e_sp_l2Before : ∀ x : D_sp_l2Before.T, ((acode E_sp_l2Before tt Z_sp_l2Before (orcOf O_sp_l2Before) C_sp_l2Before (entry A_sp_l2Before I_sp_l2Before x)).map (keepRet tt K_sp_l2Before)).ev = ((T_sp_l2Before x.1.1 x.1.2.1).map fun r => some ((((r, ()), ())) : K_sp_l2Before.T)).ev := fun _ => by kernel_rfl
noncomputable def B_sp_l2Before_0 : Code := ((loopsOf C_sp_l2Before).find? fun p => Nat.beq p.1 0).elim .skip (·.2)
theorem l_sp_l2Before_0 : (DL_sp_l2Before_0).OK E_sp_l2Before tt Z_sp_l2Before (orcOf O_sp_l2Before) B_sp_l2Before_0 where
  ok := by kernel_rfl
  oke := by kernel_rfl
  okr := by kernel_rfl
  eta := fun _ => rfl
  step := fun _ _ => by kernel_rfl
theorem o_sp_l2Before : LoopsOK E_sp_l2Before tt Z_sp_l2Before O_sp_l2Before C_sp_l2Before := by
  have h : loopsOf C_sp_l2Before = [(0, B_sp_l2Before_0)] := by kernel_rfl
  unfold LoopsOK
  rw [h]
  exact List.forall_mem_cons.2 ⟨fun d h => (by have e : some (DL_sp_l2Before_0) = some d := h; cases e; exact l_sp_l2Before_0), fun _ h => absurd h List.not_mem_nil⟩
theorem ok_sp_l2Before : FnOK prog E_sp_l2Before tt 162 D_sp_l2Before K_sp_l2Before Z_sp_l2Before O_sp_l2Before f162 C_sp_l2Before (fun x => T_sp_l2Before x.1.1 x.1.2.1) (fun r => ((r, ()), ())) where
  at_ := func162
  name := by kernel_rfl
  body := by kernel_rfl
  res := by kernel_rfl
  ok := by kernel_rfl
  arity := fun _ => Nat.le_of_ble_eq_true (by kernel_rfl)
  pin := fun _ => by kernel_rfl
  chk := by kernel_rfl
  loops := o_sp_l2Before
  run := e_sp_l2Before
  F := fun _ => rfl
  emb := fun _ => rfl
theorem fd_sp_l2Before : FDok prog (162, D_sp_l2Before) := fn_ok mixed (env_ok (fun _ h => absurd h List.not_mem_nil)) tabOK ok_sp_l2Before
theorem e_sp_l2Sets : ∀ x : D_sp_l2Sets.T, ((acode E_sp_l2Sets tt Z_sp_l2Sets (orcOf O_sp_l2Sets) C_sp_l2Sets (entry A_sp_l2Sets I_sp_l2Sets x)).map (keepRet tt K_sp_l2Sets)).ev = ((T_sp_l2Sets x.1.1).map fun r => some ((((r, ()), ())) : K_sp_l2Sets.T)).ev := fun _ => by kernel_rfl
noncomputable def B_sp_l2Sets_2 : Code := ((loopsOf C_sp_l2Sets).find? fun p => Nat.beq p.1 2).elim .skip (·.2)
theorem l_sp_l2Sets_2 : (DL_sp_l2Sets_2).OK E_sp_l2Sets tt Z_sp_l2Sets (orcOf O_sp_l2Sets) B_sp_l2Sets_2 where
  ok := by kernel_rfl
  oke := by kernel_rfl
  okr := by kernel_rfl
  eta := fun _ => rfl
  step := fun _ _ => by kernel_rfl
noncomputable def B_sp_l2Sets_0 : Code := ((loopsOf C_sp_l2Sets).find? fun p => Nat.beq p.1 0).elim .skip (·.2)
theorem l_sp_l2Sets_0 : (DL_sp_l2Sets_0).OK E_sp_l2Sets tt Z_sp_l2Sets (orcOf O_sp_l2Sets) B_sp_l2Sets_0 where
  ok := by kernel_rfl
  oke := by kernel_rfl
  okr := by kernel_rfl
  eta := fun _ => rfl
  step := fun _ _ => by kernel_rfl
theorem o_sp_l2Sets : LoopsOK E_sp_l2Sets tt Z_sp_l2Sets O_sp_l2Sets C_sp_l2Sets := by
  have h : loopsOf C_sp_l2Sets = [(0, B_sp_l2Sets_0), (2, B_sp_l2Sets_2)] := by kernel_rfl
  unfold LoopsOK
  rw [h]
  exact List.forall_mem_cons.2 ⟨fun d h => (by have e : some (DL_sp_l2Sets_0) = some d := h; cases e; exact l_sp_l2Sets_0), List.forall_mem_cons.2 ⟨fun d h => (by have e : some (DL_sp_l2Sets_2) = some d := h; cases e; exact l_sp_l2Sets_2), fun _ h => absurd h List.not_mem_nil⟩⟩
theorem ok_sp_l2Sets : FnOK prog E_sp_l2Sets tt 114 D_sp_l2Sets K_sp_l2Sets Z_sp_l2Sets O_sp_l2Sets f114 C_sp_l2Sets (fun x => T_sp_l2Sets x.1.1) (fun r => ((r, ()), ())) where
  at_ := func114
  name := by kernel_rfl
  body := by kernel_rfl
  res := by kernel_rfl
  ok := by kernel_rfl
  arity := fun _ => Nat.le_of_ble_eq_true (by kernel_rfl)
  pin := fun _ => by kernel_rfl
  chk := by kernel_rfl
  loops := o_sp_l2Sets
  run := e_sp_l2Sets
  F := fun _ => rfl
  emb := fun _ => rfl
theorem fd_sp_l2Sets : FDok prog (114, D_sp_l2Sets) := fn_ok mixed (env_ok (List.forall_mem_cons.2 ⟨fd_sp_l2Bits, List.forall_mem_cons.2 ⟨fd_sp_l2Before, fun _ h => absurd h List.not_mem_nil⟩⟩)) tabOK ok_sp_l2Sets
theorem e_sp_l2Site : ∀ x : D_sp_l2Site.T, ((acode E_sp_l2Site tt Z_sp_l2Site (orcOf O_sp_l2Site) C_sp_l2Site (entry A_sp_l2Site I_sp_l2Site x)).map (keepRet tt K_sp_l2Site)).ev = ((T_sp_l2Site x.1.1.1 x.1.1.2.1 x.1.2.1 x.1.2.2.1).map fun r => some ((((r, ()), ())) : K_sp_l2Site.T)).ev := fun _ => by kernel_rfl
noncomputable def B_sp_l2Site_0 : Code := ((loopsOf C_sp_l2Site).find? fun p => Nat.beq p.1 0).elim .skip (·.2)
theorem l_sp_l2Site_0 : (DL_sp_l2Site_0).OK E_sp_l2Site tt Z_sp_l2Site (orcOf O_sp_l2Site) B_sp_l2Site_0 where
  ok := by kernel_rfl
  oke := by kernel_rfl
  okr := by kernel_rfl
  eta := fun _ => rfl
  step := fun _ _ => by kernel_rfl
theorem o_sp_l2Site : LoopsOK E_sp_l2Site tt Z_sp_l2Site O_sp_l2Site C_sp_l2Site := by
  have h : loopsOf C_sp_l2Site = [(0, B_sp_l2Site_0)] := by kernel_rfl
  unfold LoopsOK
  rw [h]
  exact List.forall_mem_cons.2 ⟨fun d h => (by have e : some (DL_sp_l2Site_0) = some d := h; cases e; exact l_sp_l2Site_0), fun _ h => absurd h List.not_mem_nil⟩
theorem ok_sp_l2Site : FnOK prog E_sp_l2Site tt 129 D_sp_l2Site K_sp_l2Site Z_sp_l2Site O_sp_l2Site f129 C_sp_l2Site (fun x => T_sp_l2Site x.1.1.1 x.1.1.2.1 x.1.2.1 x.1.2.2.1) (fun r => ((r, ()), ())) where
  at_ := func129
  name := by kernel_rfl
  body := by kernel_rfl
  res := by kernel_rfl
  ok := by kernel_rfl
  arity := fun _ => Nat.le_of_ble_eq_true (by kernel_rfl)
  pin := fun _ => by kernel_rfl
  chk := by kernel_rfl
  loops := o_sp_l2Site
  run := e_sp_l2Site
  F := fun _ => rfl
  emb := fun _ => rfl
theorem fd_sp_l2Site : FDok prog (129, D_sp_l2Site) := fn_ok mixed (env_ok (fun _ h => absurd h List.not_mem_nil)) tabOK ok_sp_l2Site
theorem e_sp_l2Nearest : ∀ x : D_sp_l2Nearest.T, ((acode E_sp_l2Nearest tt Z_sp_l2Nearest (orcOf O_sp_l2Nearest) C_sp_l2Nearest (entry A_sp_l2Nearest I_sp_l2Nearest x)).map (keepRet tt K_sp_l2Nearest)).ev = ((T_sp_l2Nearest x.1.1.1 x.1.1.2.1 x.1.2.1 x.1.2.2.1).map fun r => some ((((r, ()), ())) : K_sp_l2Nearest.T)).ev := fun _ => by kernel_rfl
theorem o_sp_l2Nearest : LoopsOK E_sp_l2Nearest tt Z_sp_l2Nearest O_sp_l2Nearest C_sp_l2Nearest := by
  have h : loopsOf C_sp_l2Nearest = [] := by kernel_rfl
  unfold LoopsOK
  rw [h]
  exact fun _ h => absurd h List.not_mem_nil
theorem ok_sp_l2Nearest : FnOK prog E_sp_l2Nearest tt 153 D_sp_l2Nearest K_sp_l2Nearest Z_sp_l2Nearest O_sp_l2Nearest f153 C_sp_l2Nearest (fun x => T_sp_l2Nearest x.1.1.1 x.1.1.2.1 x.1.2.1 x.1.2.2.1) (fun r => ((r, ()), ())) where
  at_ := func153
  name := by kernel_rfl
  body := by kernel_rfl
  res := by kernel_rfl
  ok := by kernel_rfl
  arity := fun _ => Nat.le_of_ble_eq_true (by kernel_rfl)
  pin := fun _ => by kernel_rfl
  chk := by kernel_rfl
  loops := o_sp_l2Nearest
  run := e_sp_l2Nearest
  F := fun _ => rfl
  emb := fun _ => rfl
theorem fd_sp_l2Nearest : FDok prog (153, D_sp_l2Nearest) := fn_ok mixed (env_ok (List.forall_mem_cons.2 ⟨fd_sp_l2Site, fun _ h => absurd h List.not_mem_nil⟩)) tabOK ok_sp_l2Nearest
theorem e_sp_l2Serve : ∀ x : D_sp_l2Serve.T, ((acode E_sp_l2Serve tt Z_sp_l2Serve (orcOf O_sp_l2Serve) C_sp_l2Serve (entry A_sp_l2Serve I_sp_l2Serve x)).map (keepRet tt K_sp_l2Serve)).ev = ((T_sp_l2Serve x.1.1.1 x.1.1.2.1 x.1.2.1).map fun r => some ((((r, ()), ())) : K_sp_l2Serve.T)).ev := fun _ => by kernel_rfl
noncomputable def B_sp_l2Serve_0 : Code := ((loopsOf C_sp_l2Serve).find? fun p => Nat.beq p.1 0).elim .skip (·.2)
theorem l_sp_l2Serve_0 : (DL_sp_l2Serve_0).OK E_sp_l2Serve tt Z_sp_l2Serve (orcOf O_sp_l2Serve) B_sp_l2Serve_0 where
  ok := by kernel_rfl
  oke := by kernel_rfl
  okr := by kernel_rfl
  eta := fun _ => rfl
  step := fun _ _ => by kernel_rfl
theorem o_sp_l2Serve : LoopsOK E_sp_l2Serve tt Z_sp_l2Serve O_sp_l2Serve C_sp_l2Serve := by
  have h : loopsOf C_sp_l2Serve = [(0, B_sp_l2Serve_0)] := by kernel_rfl
  unfold LoopsOK
  rw [h]
  exact List.forall_mem_cons.2 ⟨fun d h => (by have e : some (DL_sp_l2Serve_0) = some d := h; cases e; exact l_sp_l2Serve_0), fun _ h => absurd h List.not_mem_nil⟩
theorem ok_sp_l2Serve : FnOK prog E_sp_l2Serve tt 103 D_sp_l2Serve K_sp_l2Serve Z_sp_l2Serve O_sp_l2Serve f103 C_sp_l2Serve (fun x => T_sp_l2Serve x.1.1.1 x.1.1.2.1 x.1.2.1) (fun r => ((r, ()), ())) where
  at_ := func103
  name := by kernel_rfl
  body := by kernel_rfl
  res := by kernel_rfl
  ok := by kernel_rfl
  arity := fun _ => Nat.le_of_ble_eq_true (by kernel_rfl)
  pin := fun _ => by kernel_rfl
  chk := by kernel_rfl
  loops := o_sp_l2Serve
  run := e_sp_l2Serve
  F := fun _ => rfl
  emb := fun _ => rfl
theorem fd_sp_l2Serve : FDok prog (103, D_sp_l2Serve) := fn_ok mixed (env_ok (List.forall_mem_cons.2 ⟨fd_sp_l2Nearest, fun _ h => absurd h List.not_mem_nil⟩)) tabOK ok_sp_l2Serve
theorem e_sp_l2Pay : ∀ x : D_sp_l2Pay.T, ((acode E_sp_l2Pay tt Z_sp_l2Pay (orcOf O_sp_l2Pay) C_sp_l2Pay (entry A_sp_l2Pay I_sp_l2Pay x)).map (keepRet tt K_sp_l2Pay)).ev = ((T_sp_l2Pay x.1.1.1 x.1.1.2.1 x.1.2.1).map fun r => some ((((r, ()), ())) : K_sp_l2Pay.T)).ev := fun _ => by kernel_rfl
noncomputable def B_sp_l2Pay_0 : Code := ((loopsOf C_sp_l2Pay).find? fun p => Nat.beq p.1 0).elim .skip (·.2)
theorem l_sp_l2Pay_0 : (DL_sp_l2Pay_0).OK E_sp_l2Pay tt Z_sp_l2Pay (orcOf O_sp_l2Pay) B_sp_l2Pay_0 where
  ok := by kernel_rfl
  oke := by kernel_rfl
  okr := by kernel_rfl
  eta := fun _ => rfl
  step := fun _ _ => by kernel_rfl
theorem o_sp_l2Pay : LoopsOK E_sp_l2Pay tt Z_sp_l2Pay O_sp_l2Pay C_sp_l2Pay := by
  have h : loopsOf C_sp_l2Pay = [(0, B_sp_l2Pay_0)] := by kernel_rfl
  unfold LoopsOK
  rw [h]
  exact List.forall_mem_cons.2 ⟨fun d h => (by have e : some (DL_sp_l2Pay_0) = some d := h; cases e; exact l_sp_l2Pay_0), fun _ h => absurd h List.not_mem_nil⟩
theorem ok_sp_l2Pay : FnOK prog E_sp_l2Pay tt 163 D_sp_l2Pay K_sp_l2Pay Z_sp_l2Pay O_sp_l2Pay f163 C_sp_l2Pay (fun x => T_sp_l2Pay x.1.1.1 x.1.1.2.1 x.1.2.1) (fun r => ((r, ()), ())) where
  at_ := func163
  name := by kernel_rfl
  body := by kernel_rfl
  res := by kernel_rfl
  ok := by kernel_rfl
  arity := fun _ => Nat.le_of_ble_eq_true (by kernel_rfl)
  pin := fun _ => by kernel_rfl
  chk := by kernel_rfl
  loops := o_sp_l2Pay
  run := e_sp_l2Pay
  F := fun _ => rfl
  emb := fun _ => rfl
theorem fd_sp_l2Pay : FDok prog (163, D_sp_l2Pay) := fn_ok mixed (env_ok (fun _ h => absurd h List.not_mem_nil)) tabOK ok_sp_l2Pay
theorem e_sp_l2Total : ∀ x : D_sp_l2Total.T, ((acode E_sp_l2Total tt Z_sp_l2Total (orcOf O_sp_l2Total) C_sp_l2Total (entry A_sp_l2Total I_sp_l2Total x)).map (keepRet tt K_sp_l2Total)).ev = ((T_sp_l2Total x.1.1.1 x.1.1.2.1 x.1.2.1).map fun r => some ((((r, ()), ())) : K_sp_l2Total.T)).ev := fun _ => by kernel_rfl
theorem o_sp_l2Total : LoopsOK E_sp_l2Total tt Z_sp_l2Total O_sp_l2Total C_sp_l2Total := by
  have h : loopsOf C_sp_l2Total = [] := by kernel_rfl
  unfold LoopsOK
  rw [h]
  exact fun _ h => absurd h List.not_mem_nil
theorem ok_sp_l2Total : FnOK prog E_sp_l2Total tt 164 D_sp_l2Total K_sp_l2Total Z_sp_l2Total O_sp_l2Total f164 C_sp_l2Total (fun x => T_sp_l2Total x.1.1.1 x.1.1.2.1 x.1.2.1) (fun r => ((r, ()), ())) where
  at_ := func164
  name := by kernel_rfl
  body := by kernel_rfl
  res := by kernel_rfl
  ok := by kernel_rfl
  arity := fun _ => Nat.le_of_ble_eq_true (by kernel_rfl)
  pin := fun _ => by kernel_rfl
  chk := by kernel_rfl
  loops := o_sp_l2Total
  run := e_sp_l2Total
  F := fun _ => rfl
  emb := fun _ => rfl
theorem fd_sp_l2Total : FDok prog (164, D_sp_l2Total) := fn_ok mixed (env_ok (List.forall_mem_cons.2 ⟨fd_sp_l2Serve, List.forall_mem_cons.2 ⟨fd_sp_l2Pay, fun _ h => absurd h List.not_mem_nil⟩⟩)) tabOK ok_sp_l2Total
theorem e_sp_l1Most : ∀ x : D_sp_l1Most.T, ((acode E_sp_l1Most tt Z_sp_l1Most (orcOf O_sp_l1Most) C_sp_l1Most (entry A_sp_l1Most I_sp_l1Most x)).map (keepRet tt K_sp_l1Most)).ev = ((T_sp_l1Most x.1.1 x.1.2.1).map fun r => some ((((r, ()), ())) : K_sp_l1Most.T)).ev := fun _ => by kernel_rfl
theorem o_sp_l1Most : LoopsOK E_sp_l1Most tt Z_sp_l1Most O_sp_l1Most C_sp_l1Most := by
  have h : loopsOf C_sp_l1Most = [] := by kernel_rfl
  unfold LoopsOK
  rw [h]
  exact fun _ h => absurd h List.not_mem_nil
theorem ok_sp_l1Most : FnOK prog E_sp_l1Most tt 186 D_sp_l1Most K_sp_l1Most Z_sp_l1Most O_sp_l1Most f186 C_sp_l1Most (fun x => T_sp_l1Most x.1.1 x.1.2.1) (fun r => ((r, ()), ())) where
  at_ := func186
  name := by kernel_rfl
  body := by kernel_rfl
  res := by kernel_rfl
  ok := by kernel_rfl
  arity := fun _ => Nat.le_of_ble_eq_true (by kernel_rfl)
  pin := fun _ => by kernel_rfl
  chk := by kernel_rfl
  loops := o_sp_l1Most
  run := e_sp_l1Most
  F := fun _ => rfl
  emb := fun _ => rfl
theorem fd_sp_l1Most : FDok prog (186, D_sp_l1Most) := fn_ok mixed (env_ok (fun _ h => absurd h List.not_mem_nil)) tabOK ok_sp_l1Most
theorem e_sp_l2Far : ∀ x : D_sp_l2Far.T, ((acode E_sp_l2Far tt Z_sp_l2Far (orcOf O_sp_l2Far) C_sp_l2Far (entry A_sp_l2Far I_sp_l2Far x)).map (keepRet tt K_sp_l2Far)).ev = ((T_sp_l2Far x.1.1.1 x.1.1.2.1 x.1.2.1).map fun r => some ((((r, ()), ())) : K_sp_l2Far.T)).ev := fun _ => by kernel_rfl
noncomputable def B_sp_l2Far_0 : Code := ((loopsOf C_sp_l2Far).find? fun p => Nat.beq p.1 0).elim .skip (·.2)
theorem l_sp_l2Far_0 : (DL_sp_l2Far_0).OK E_sp_l2Far tt Z_sp_l2Far (orcOf O_sp_l2Far) B_sp_l2Far_0 where
  ok := by kernel_rfl
  oke := by kernel_rfl
  okr := by kernel_rfl
  eta := fun _ => rfl
  step := fun _ _ => by kernel_rfl
theorem o_sp_l2Far : LoopsOK E_sp_l2Far tt Z_sp_l2Far O_sp_l2Far C_sp_l2Far := by
  have h : loopsOf C_sp_l2Far = [(0, B_sp_l2Far_0)] := by kernel_rfl
  unfold LoopsOK
  rw [h]
  exact List.forall_mem_cons.2 ⟨fun d h => (by have e : some (DL_sp_l2Far_0) = some d := h; cases e; exact l_sp_l2Far_0), fun _ h => absurd h List.not_mem_nil⟩
theorem ok_sp_l2Far : FnOK prog E_sp_l2Far tt 165 D_sp_l2Far K_sp_l2Far Z_sp_l2Far O_sp_l2Far f165 C_sp_l2Far (fun x => T_sp_l2Far x.1.1.1 x.1.1.2.1 x.1.2.1) (fun r => ((r, ()), ())) where
  at_ := func165
  name := by kernel_rfl
  body := by kernel_rfl
  res := by kernel_rfl
  ok := by kernel_rfl
  arity := fun _ => Nat.le_of_ble_eq_true (by kernel_rfl)
  pin := fun _ => by kernel_rfl
  chk := by kernel_rfl
  loops := o_sp_l2Far
  run := e_sp_l2Far
  F := fun _ => rfl
  emb := fun _ => rfl
theorem fd_sp_l2Far : FDok prog (165, D_sp_l2Far) := fn_ok mixed (env_ok (List.forall_mem_cons.2 ⟨fd_sp_l2Nearest, List.forall_mem_cons.2 ⟨fd_sp_l1Most, fun _ h => absurd h List.not_mem_nil⟩⟩)) tabOK ok_sp_l2Far
theorem e_sp_l11Value : ∀ x : D_sp_l11Value.T, ((acode E_sp_l11Value tt Z_sp_l11Value (orcOf O_sp_l11Value) C_sp_l11Value (entry A_sp_l11Value I_sp_l11Value x)).map (keepRet tt K_sp_l11Value)).ev = ((T_sp_l11Value x.1.1.1 x.1.1.2.1 x.1.2.1 x.1.2.2.1).map fun r => some ((((r, ()), ())) : K_sp_l11Value.T)).ev := fun _ => by kernel_rfl
theorem o_sp_l11Value : LoopsOK E_sp_l11Value tt Z_sp_l11Value O_sp_l11Value C_sp_l11Value := by
  have h : loopsOf C_sp_l11Value = [] := by kernel_rfl
  unfold LoopsOK
  rw [h]
  exact fun _ h => absurd h List.not_mem_nil
theorem ok_sp_l11Value : FnOK prog E_sp_l11Value tt 115 D_sp_l11Value K_sp_l11Value Z_sp_l11Value O_sp_l11Value f115 C_sp_l11Value (fun x => T_sp_l11Value x.1.1.1 x.1.1.2.1 x.1.2.1 x.1.2.2.1) (fun r => ((r, ()), ())) where
  at_ := func115
  name := by kernel_rfl
  body := by kernel_rfl
  res := by kernel_rfl
  ok := by kernel_rfl
  arity := fun _ => Nat.le_of_ble_eq_true (by kernel_rfl)
  pin := fun _ => by kernel_rfl
  chk := by kernel_rfl
  loops := o_sp_l11Value
  run := e_sp_l11Value
  F := fun _ => rfl
  emb := fun _ => rfl
theorem fd_sp_l11Value : FDok prog (115, D_sp_l11Value) := fn_ok mixed (env_ok (List.forall_mem_cons.2 ⟨fd_sp_l2Serve, List.forall_mem_cons.2 ⟨fd_sp_l2Pay, List.forall_mem_cons.2 ⟨fd_sp_l2Total, List.forall_mem_cons.2 ⟨fd_sp_l2Far, fun _ h => absurd h List.not_mem_nil⟩⟩⟩⟩)) tabOK ok_sp_l11Value
theorem e_sp_BestUnder : ∀ x : D_sp_BestUnder.T, ((acode E_sp_BestUnder tt Z_sp_BestUnder (orcOf O_sp_BestUnder) C_sp_BestUnder (entry A_sp_BestUnder I_sp_BestUnder x)).map (keepRet tt K_sp_BestUnder)).ev = ((T_sp_BestUnder x.1.1.1 x.1.1.2.1 x.1.2.1 x.1.2.2.1 x.1.2.2.2.1).map fun r => some ((((r.1, (r.2, ())), ())) : K_sp_BestUnder.T)).ev := fun _ => by kernel_rfl
noncomputable def B_sp_BestUnder_0 : Code := ((loopsOf C_sp_BestUnder).find? fun p => Nat.beq p.1 0).elim .skip (·.2)
theorem l_sp_BestUnder_0 : (DL_sp_BestUnder_0).OK E_sp_BestUnder tt Z_sp_BestUnder (orcOf O_sp_BestUnder) B_sp_BestUnder_0 where
  ok := by kernel_rfl
  oke := by kernel_rfl
  okr := by kernel_rfl
  eta := fun _ => rfl
  step := fun _ _ => by kernel_rfl
theorem o_sp_BestUnder : LoopsOK E_sp_BestUnder tt Z_sp_BestUnder O_sp_BestUnder C_sp_BestUnder := by
  have h : loopsOf C_sp_BestUnder = [(0, B_sp_BestUnder_0)] := by kernel_rfl
  unfold LoopsOK
  rw [h]
  exact List.forall_mem_cons.2 ⟨fun d h => (by have e : some (DL_sp_BestUnder_0) = some d := h; cases e; exact l_sp_BestUnder_0), fun _ h => absurd h List.not_mem_nil⟩
theorem ok_sp_BestUnder : FnOK prog E_sp_BestUnder tt 44 D_sp_BestUnder K_sp_BestUnder Z_sp_BestUnder O_sp_BestUnder f44 C_sp_BestUnder (fun x => T_sp_BestUnder x.1.1.1 x.1.1.2.1 x.1.2.1 x.1.2.2.1 x.1.2.2.2.1) (fun r => ((r.1, (r.2, ())), ())) where
  at_ := func44
  name := by kernel_rfl
  body := by kernel_rfl
  res := by kernel_rfl
  ok := by kernel_rfl
  arity := fun _ => Nat.le_of_ble_eq_true (by kernel_rfl)
  pin := fun _ => by kernel_rfl
  chk := by kernel_rfl
  loops := o_sp_BestUnder
  run := e_sp_BestUnder
  F := fun _ => rfl
  emb := fun _ => rfl
theorem fd_sp_BestUnder : FDok prog (44, D_sp_BestUnder) := fn_ok mixed (env_ok (List.forall_mem_cons.2 ⟨fd_sp_l11Two, List.forall_mem_cons.2 ⟨fd_sp_l2Sets, List.forall_mem_cons.2 ⟨fd_sp_l11Value, fun _ h => absurd h List.not_mem_nil⟩⟩⟩)) tabOK ok_sp_BestUnder
theorem e_im_between : ∀ x : D_im_between.T, ((acode E_im_between tt Z_im_between (orcOf O_im_between) C_im_between (entry A_im_between I_im_between x)).map (keepRet tt K_im_between)).ev = ((T_im_between x.1.1 x.1.2.1 x.1.2.2.1).map fun r => some ((((r, ()), ())) : K_im_between.T)).ev := fun _ => by kernel_rfl
theorem o_im_between : LoopsOK E_im_between tt Z_im_between O_im_between C_im_between := by
  have h : loopsOf C_im_between = [] := by kernel_rfl
  unfold LoopsOK
  rw [h]
  exact fun _ h => absurd h List.not_mem_nil
theorem ok_im_between : FnOK prog E_im_between tt 136 D_im_between K_im_between Z_im_between O_im_between f136 C_im_between (fun x => T_im_between x.1.1 x.1.2.1 x.1.2.2.1) (fun r => ((r, ()), ())) where
  at_ := func136
  name := by kernel_rfl
  body := by kernel_rfl
  res := by kernel_rfl
  ok := by kernel_rfl
  arity := fun _ => Nat.le_of_ble_eq_true (by kernel_rfl)
  pin := fun _ => by kernel_rfl
  chk := by kernel_rfl
  loops := o_im_between
  run := e_im_between
  F := fun _ => rfl
  emb := fun _ => rfl
theorem fd_im_between : FDok prog (136, D_im_between) := fn_ok mixed (env_ok (fun _ h => absurd h List.not_mem_nil)) tabOK ok_im_between
theorem e_slices_IndexFunc_Sint_int : ∀ x : D_slices_IndexFunc_Sint_int.T, ((acode E_slices_IndexFunc_Sint_int tt Z_slices_IndexFunc_Sint_int (orcOf O_slices_IndexFunc_Sint_int) C_slices_IndexFunc_Sint_int (entry A_slices_IndexFunc_Sint_int I_slices_IndexFunc_Sint_int x)).map (keepRet tt K_slices_IndexFunc_Sint_int)).ev = ((T_slices_IndexFunc_Sint_int x.1.1 x.1.2.1).map fun r => some ((((r, ()), ())) : K_slices_IndexFunc_Sint_int.T)).ev := fun _ => by kernel_rfl
noncomputable def B_slices_IndexFunc_Sint_int_0 : Code := ((loopsOf C_slices_IndexFunc_Sint_int).find? fun p => Nat.beq p.1 0).elim .skip (·.2)
theorem l_slices_IndexFunc_Sint_int_0 : (DL_slices_IndexFunc_Sint_int_0).OK E_slices_IndexFunc_Sint_int tt Z_slices_IndexFunc_Sint_int (orcOf O_slices_IndexFunc_Sint_int) B_slices_IndexFunc_Sint_int_0 where
  ok := by kernel_rfl
  oke := by kernel_rfl
  okr := by kernel_rfl
  eta := fun _ => rfl
  step := fun _ _ => by kernel_rfl
theorem o_slices_IndexFunc_Sint_int : LoopsOK E_slices_IndexFunc_Sint_int tt Z_slices_IndexFunc_Sint_int O_slices_IndexFunc_Sint_int C_slices_IndexFunc_Sint_int := by
  have h : loopsOf C_slices_IndexFunc_Sint_int = [(0, B_slices_IndexFunc_Sint_int_0)] := by kernel_rfl
  unfold LoopsOK
  rw [h]
  exact List.forall_mem_cons.2 ⟨fun d h => (by have e : some (DL_slices_IndexFunc_Sint_int_0) = some d := h; cases e; exact l_slices_IndexFunc_Sint_int_0), fun _ h => absurd h List.not_mem_nil⟩
theorem ok_slices_IndexFunc_Sint_int : FnOK prog E_slices_IndexFunc_Sint_int tt 193 D_slices_IndexFunc_Sint_int K_slices_IndexFunc_Sint_int Z_slices_IndexFunc_Sint_int O_slices_IndexFunc_Sint_int f193 C_slices_IndexFunc_Sint_int (fun x => T_slices_IndexFunc_Sint_int x.1.1 x.1.2.1) (fun r => ((r, ()), ())) where
  at_ := func193
  name := by kernel_rfl
  body := by kernel_rfl
  res := by kernel_rfl
  ok := by kernel_rfl
  arity := fun _ => Nat.le_of_ble_eq_true (by kernel_rfl)
  pin := fun _ => by kernel_rfl
  chk := by kernel_rfl
  loops := o_slices_IndexFunc_Sint_int
  run := e_slices_IndexFunc_Sint_int
  F := fun _ => rfl
  emb := fun _ => rfl
theorem fd_slices_IndexFunc_Sint_int : FDok prog (193, D_slices_IndexFunc_Sint_int) := fn_ok mixed (env_ok (fun _ h => absurd h List.not_mem_nil)) tabOK ok_slices_IndexFunc_Sint_int
theorem e_slices_ContainsFunc_Sint_int : ∀ x : D_slices_ContainsFunc_Sint_int.T, ((acode E_slices_ContainsFunc_Sint_int tt Z_slices_ContainsFunc_Sint_int (orcOf O_slices_ContainsFunc_Sint_int) C_slices_ContainsFunc_Sint_int (entry A_slices_ContainsFunc_Sint_int I_slices_ContainsFunc_Sint_int x)).map (keepRet tt K_slices_ContainsFunc_Sint_int)).ev = ((T_slices_ContainsFunc_Sint_int x.1.1 x.1.2.1).map fun r => some ((((r, ()), ())) : K_slices_ContainsFunc_Sint_int.T)).ev := fun _ => by kernel_rfl
theorem o_slices_ContainsFunc_Sint_int : LoopsOK E_slices_ContainsFunc_Sint_int tt Z_slices_ContainsFunc_Sint_int O_slices_ContainsFunc_Sint_int C_slices_ContainsFunc_Sint_int := by
  have h : loopsOf C_slices_ContainsFunc_Sint_int = [] := by kernel_rfl
  unfold LoopsOK
  rw [h]
  exact fun _ h => absurd h List.not_mem_nil
theorem ok_slices_ContainsFunc_Sint_int : FnOK prog E_slices_ContainsFunc_Sint_int tt 177 D_slices_ContainsFunc_Sint_int K_slices_ContainsFunc_Sint_int Z_slices_ContainsFunc_Sint_int O_slices_ContainsFunc_Sint_int f177 C_slices_ContainsFunc_Sint_int (fun x => T_slices_ContainsFunc_Sint_int x.1.1 x.1.2.1) (fun r => ((r, ()), ())) where
  at_ := func177
  name := by kernel_rfl
  body := by kernel_rfl
  res := by kernel_rfl
  ok := by kernel_rfl
  arity := fun _ => Nat.le_of_ble_eq_true (by kernel_rfl)
  pin := fun _ => by kernel_rfl
  chk := by kernel_rfl
  loops := o_slices_ContainsFunc_Sint_int
  run := e_slices_ContainsFunc_Sint_int
  F := fun _ => rfl
  emb := fun _ => rfl
theorem fd_slices_ContainsFunc_Sint_int : FDok prog (177, D_slices_ContainsFunc_Sint_int) := fn_ok mixed (env_ok (List.forall_mem_cons.2 ⟨fd_slices_IndexFunc_Sint_int, fun _ h => absurd h List.not_mem_nil⟩)) tabOK ok_slices_ContainsFunc_Sint_int
theorem e_im_areBetween_1 : ∀ x : D_im_areBetween_1.T, ((acode E_im_areBetween_1 tt Z_im_areBetween_1 (orcOf O_im_areBetween_1) C_im_areBetween_1 (entry A_im_areBetween_1 I_im_areBetween_1 x)).map (keepRet tt K_im_areBetween_1)).ev = ((T_im_areBetween_1 x.1.1 x.1.2.1.1 x.1.2.2.1.1).map fun r => some ((((r, ()), ())) : K_im_areBetween_1.T)).ev := fun _ => by kernel_rfl
theorem o_im_areBetween_1 : LoopsOK E_im_areBetween_1 tt Z_im_areBetween_1 O_im_areBetween_1 C_im_areBetween_1 := by
  have h : loopsOf C_im_areBetween_1 = [] := by kernel_rfl
  unfold LoopsOK
  rw [h]
  exact fun _ h => absurd h List.not_mem_nil
theorem ok_im_areBetween_1 : FnOK prog E_im_areBetween_1 tt 178 D_im_areBetween_1 K_im_areBetween_1 Z_im_areBetween_1 O_im_areBetween_1 f178 C_im_areBetween_1 (fun x => T_im_areBetween_1 x.1.1 x.1.2.1.1 x.1.2.2.1.1) (fun r => ((r, ()), ())) where
  at_ := func178
  name := by kernel_rfl
  body := by kernel_rfl
  res := by kernel_rfl
  ok := by kernel_rfl
  arity := fun _ => Nat.le_of_ble_eq_true (by kernel_rfl)
  pin := fun _ => by kernel_rfl
  chk := by kernel_rfl
  loops := o_im_areBetween_1
  run := e_im_areBetween_1
  F := fun _ => rfl
  emb := fun _ => rfl
theorem fd_im_areBetween_1 : FDok prog (178, D_im_areBetween_1) := fn_ok mixed (env_ok (List.forall_mem_cons.2 ⟨fd_im_between, fun _ h => absurd h List.not_mem_nil⟩)) tabOK ok_im_areBetween_1
theorem e_im_areBetween : ∀ x : D_im_areBetween.T, ((acode E_im_areBetween tt Z_im_areBetween (orcOf O_im_areBetween) C_im_areBetween (entry A_im_areBetween I_im_areBetween x)).map (keepRet tt K_im_areBetween)).ev = ((T_im_areBetween x.1.1 x.1.2.1 x.1.2.2.1).map fun r => some ((((r, ()), ())) : K_im_areBetween.T)).ev := fun _ => by kernel_rfl
theorem o_im_areBetween : LoopsOK E_im_areBetween tt Z_im_areBetween O_im_areBetween C_im_areBetween := by
  have h : loopsOf C_im_areBetween = [] := by kernel_rfl
  unfold LoopsOK
  rw [h]
  exact fun _ h => absurd h List.not_mem_nil
theorem ok_im_areBetween : FnOK prog E_im_areBetween tt 137 D_im_areBetween K_im_areBetween Z_im_areBetween O_im_areBetween f137 C_im_areBetween (fun x => T_im_areBetween x.1.1 x.1.2.1 x.1.2.2.1) (fun r => ((r, ()), ())) where
  at_ := func137
  name := by kernel_rfl
  body := by kernel_rfl
  res := by kernel_rfl
  ok := by kernel_rfl
  arity := fun _ => Nat.le_of_ble_eq_true (by kernel_rfl)
  pin := fun _ => by kernel_rfl
  chk := by kernel_rfl
  loops := o_im_areBetween
  run := e_im_areBetween
  F := fun _ => rfl
  emb := fun _ => rfl
theorem fd_im_areBetween : FDok prog (137, D_im_areBetween) := fn_ok mixed (env_ok (List.forall_mem_cons.2 ⟨fd_slices_ContainsFunc_Sint_int, List.forall_mem_cons.2 ⟨fd_slices_ContainsFunc_Sint_int, List.forall_mem_cons.2 ⟨fd_im_areBetween_1, fun _ h => absurd h List.not_mem_nil⟩⟩⟩)) tabOK ok_im_areBetween
theorem e_slices_IndexFunc_SSint_Sint : ∀ x : D_slices_IndexFunc_SSint_Sint.T, ((acode E_slices_IndexFunc_SSint_Sint tt Z_slices_IndexFunc_SSint_Sint (orcOf O_slices_IndexFunc_SSint_Sint) C_slices_IndexFunc_SSint_Sint (entry A_slices_IndexFunc_SSint_Sint I_slices_IndexFunc_SSint_Sint x)).map (keepRet tt K_slices_IndexFunc_SSint_Sint)).ev = ((T_slices_IndexFunc_SSint_Sint x.1.1 x.1.2.1).map fun r => some ((((r, ()), ())) : K_slices_IndexFunc_SSint_Sint.T)).ev := fun _ => by kernel_rfl
noncomputable def B_slices_IndexFunc_SSint_Sint_0 : Code := ((loopsOf C_slices_IndexFunc_SSint_Sint).find? fun p => Nat.beq p.1 0).elim .skip (·.2)
theorem l_slices_IndexFunc_SSint_Sint_0 : (DL_slices_IndexFunc_SSint_Sint_0).OK E_slices_IndexFunc_SSint_Sint tt Z_slices_IndexFunc_SSint_Sint (orcOf O_slices_IndexFunc_SSint_Sint) B_slices_IndexFunc_SSint_Sint_0 where
  ok := by kernel_rfl
  oke := by kernel_rfl
  okr := by kernel_rfl
  eta := fun _ => rfl
  step := fun _ _ => by kernel_rfl
theorem o_slices_IndexFunc_SSint_Sint : LoopsOK E_slices_IndexFunc_SSint_Sint tt Z_slices_IndexFunc_SSint_Sint O_slices_IndexFunc_SSint_Sint C_slices_IndexFunc_SSint_Sint := by
  have h : loopsOf C_slices_IndexFunc_SSint_Sint = [(0, B_slices_IndexFunc_SSint_Sint_0)] := by kernel_rfl
  unfold LoopsOK
  rw [h]
  exact List.forall_mem_cons.2 ⟨fun d h => (by have e : some (DL_slices_IndexFunc_SSint_Sint_0) = some d := h; cases e; exact l_slices_IndexFunc_SSint_Sint_0), fun _ h => absurd h List.not_mem_nil⟩
theorem ok_slices_IndexFunc_SSint_Sint : FnOK prog E_slices_IndexFunc_SSint_Sint tt 167 D_slices_IndexFunc_SSint_Sint K_slices_IndexFunc_SSint_Sint Z_slices_IndexFunc_SSint_Sint O_slices_IndexFunc_SSint_Sint f167 C_slices_IndexFunc_SSint_Sint (fun x => T_slices_IndexFunc_SSint_Sint x.1.1 x.1.2.1) (fun r => ((r, ()), ())) where
  at_ := func167
  name := by kernel_rfl
  body := by kernel_rfl
  res := by kernel_rfl
  ok := by kernel_rfl
  arity := fun _ => Nat.le_of_ble_eq_true (by kernel_rfl)
  pin := fun _ => by kernel_rfl
  chk := by kernel_rfl
  loops := o_slices_IndexFunc_SSint_Sint
  run := e_slices_IndexFunc_SSint_Sint
  F := fun _ => rfl
  emb := fun _ => rfl
theorem fd_slices_IndexFunc_SSint_Sint : FDok prog (167, D_slices_IndexFunc_SSint_Sint) := fn_ok mixed (env_ok (fun _ h => absurd h List.not_mem_nil)) tabOK ok_slices_IndexFunc_SSint_Sint
theorem e_slices_ContainsFunc_SSint_Sint : ∀ x : D_slices_ContainsFunc_SSint_Sint.T, ((acode E_slices_ContainsFunc_SSint_Sint tt Z_slices_ContainsFunc_SSint_Sint (orcOf O_slices_ContainsFunc_SSint_Sint) C_slices_ContainsFunc_SSint_Sint (entry A_slices_ContainsFunc_SSint_Sint I_slices_ContainsFunc_SSint_Sint x)).map (keepRet tt K_slices_ContainsFunc_SSint_Sint)).ev = ((T_slices_ContainsFunc_SSint_Sint x.1.1 x.1.2.1).map fun r => some ((((r, ()), ())) : K_slices_ContainsFunc_SSint_Sint.T)).ev := fun _ => by kernel_rfl
theorem o_slices_ContainsFunc_SSint_Sint : LoopsOK E_slices_ContainsFunc_SSint_Sint tt Z_slices_ContainsFunc_SSint_Sint O_slices_ContainsFunc_SSint_Sint C_slices_ContainsFunc_SSint_Sint := by
  have h : loopsOf C_slices_ContainsFunc_SSint_Sint = [] := by kernel_rfl
  unfold LoopsOK
  rw [h]
  exact fun _ h => absurd h List.not_mem_nil
theorem ok_slices_ContainsFunc_SSint_Sint : FnOK prog E_slices_ContainsFunc_SSint_Sint tt 141 D_slices_ContainsFunc_SSint_Sint K_slices_ContainsFunc_SSint_Sint Z_slices_ContainsFunc_SSint_Sint O_slices_ContainsFunc_SSint_Sint f141 C_slices_ContainsFunc_SSint_Sint (fun x => T_slices_ContainsFunc_SSint_Sint x.1.1 x.1.2.1) (fun r => ((r, ()), ())) where
  at_ := func141
  name := by kernel_rfl
  body := by kernel_rfl
  res := by kernel_rfl
  ok := by kernel_rfl
  arity := fun _ => Nat.le_of_ble_eq_true (by kernel_rfl)
  pin := fun _ => by kernel_rfl
  chk := by kernel_rfl
  loops := o_slices_ContainsFunc_SSint_Sint
  run := e_slices_ContainsFunc_SSint_Sint
  F := fun _ => rfl
  emb := fun _ => rfl
theorem fd_slices_ContainsFunc_SSint_Sint : FDok prog (141, D_slices_ContainsFunc_SSint_Sint) := fn_ok mixed (env_ok (List.forall_mem_cons.2 ⟨fd_slices_IndexFunc_SSint_Sint, fun _ h => absurd h List.not_mem_nil⟩)) tabOK ok_slices_ContainsFunc_SSint_Sint
theorem e_im_IsField_1 : ∀ x : D_im_IsField_1.T, ((acode E_im_IsField_1 tt Z_im_IsField_1 (orcOf O_im_IsField_1) C_im_IsField_1 (entry A_im_IsField_1 I_im_IsField_1 x)).map (keepRet tt K_im_IsField_1)).ev = ((T_im_IsField_1 x.1.1 x.1.2.1.1 x.1.2.1.2.1).map fun r => some ((((r, ()), ())) : K_im_IsField_1.T)).ev := fun _ => by kernel_rfl
theorem o_im_IsField_1 : LoopsOK E_im_IsField_1 tt Z_im_IsField_1 O_im_IsField_1 C_im_IsField_1 := by
  have h : loopsOf C_im_IsField_1 = [] := by kernel_rfl
  unfold LoopsOK
  rw [h]
  exact fun _ h => absurd h List.not_mem_nil
theorem ok_im_IsField_1 : FnOK prog E_im_IsField_1 tt 154 D_im_IsField_1 K_im_IsField_1 Z_im_IsField_1 O_im_IsField_1 f154 C_im_IsField_1 (fun x => T_im_IsField_1 x.1.1 x.1.2.1.1 x.1.2.1.2.1) (fun r => ((r, ()), ())) where
  at_ := func154
  name := by kernel_rfl
  body := by kernel_rfl
  res := by kernel_rfl
  ok := by kernel_rfl
  arity := fun _ => Nat.le_of_ble_eq_true (by kernel_rfl)
  pin := fun _ => by kernel_rfl
  chk := by kernel_rfl
  loops := o_im_IsField_1
  run := e_im_IsField_1
  F := fun _ => rfl
  emb := fun _ => rfl
theorem fd_im_IsField_1 : FDok prog (154, D_im_IsField_1) := fn_ok mixed (env_ok (List.forall_mem_cons.2 ⟨fd_im_areBetween, fun _ h => absurd h List.not_mem_nil⟩)) tabOK ok_im_IsField_1
theorem e_im_IsField : ∀ x : D_im_IsField.T, ((acode E_im_IsField tt Z_im_IsField (orcOf O_im_IsField) C_im_IsField (entry A_im_IsField I_im_IsField x)).map (keepRet tt K_im_IsField)).ev = ((T_im_IsField x.1.1.1 x.1.1.2.1).map fun r => some ((((r, ()), ())) : K_im_IsField.T)).ev := fun _ => by kernel_rfl
theorem o_im_IsField : LoopsOK E_im_IsField tt Z_im_IsField O_im_IsField C_im_IsField := by
  have h : loopsOf C_im_IsField = [] := by kernel_rfl
  unfold LoopsOK
  rw [h]
  exact fun _ h => absurd h List.not_mem_nil
theorem ok_im_IsField : FnOK prog E_im_IsField tt 106 D_im_IsField K_im_IsField Z_im_IsField O_im_IsField f106 C_im_IsField (fun x => T_im_IsField x.1.1.1 x.1.1.2.1) (fun r => ((r, ()), ())) where
  at_ := func106
  name := by kernel_rfl
  body := by kernel_rfl
  res := by kernel_rfl
  ok := by kernel_rfl
  arity := fun _ => Nat.le_of_ble_eq_true (by kernel_rfl)
  pin := fun _ => by kernel_rfl
  chk := by kernel_rfl
  loops := o_im_IsField
  run := e_im_IsField
  F := fun _ => rfl
  emb := fun _ => rfl
theorem fd_im_IsField : FDok prog (106, D_im_IsField) := fn_ok mixed (env_ok (List.forall_mem_cons.2 ⟨fd_im_between, List.forall_mem_cons.2 ⟨fd_im_areBetween, List.forall_mem_cons.2 ⟨fd_slices_ContainsFunc_SSint_Sint, List.forall_mem_cons.2 ⟨fd_slices_ContainsFunc_SSint_Sint, List.forall_mem_cons.2 ⟨fd_im_IsField_1, fun _ h => absurd h List.not_mem_nil⟩⟩⟩⟩⟩)) tabOK ok_im_IsField
theorem e_im_isObjective : ∀ x : D_im_isObjective.T, ((acode E_im_isObjective tt Z_im_isObjective (orcOf O_im_isObjective) C_im_isObjective (entry A_im_isObjective I_im_isObjective x)).map (keepRet tt K_im_isObjective)).ev = ((T_im_isObjective x.1.1).map fun r => some ((((r, ()), ())) : K_im_isObjective.T)).ev := fun _ => by kernel_rfl
theorem o_im_isObjective : LoopsOK E_im_isObjective tt Z_im_isObjective O_im_isObjective C_im_isObjective := by
  have h : loopsOf C_im_isObjective = [] := by kernel_rfl
  unfold LoopsOK
  rw [h]
  exact fun _ h => absurd h List.not_mem_nil
theorem ok_im_isObjective : FnOK prog E_im_isObjective tt 166 D_im_isObjective K_im_isObjective Z_im_isObjective O_im_isObjective f166 C_im_isObjective (fun x => T_im_isObjective x.1.1) (fun r => ((r, ()), ())) where
  at_ := func166
  name := by kernel_rfl
  body := by kernel_rfl
  res := by kernel_rfl
  ok := by kernel_rfl
  arity := fun _ => Nat.le_of_ble_eq_true (by kernel_rfl)
  pin := fun _ => by kernel_rfl
  chk := by kernel_rfl
  loops := o_im_isObjective
  run := e_im_isObjective
  F := fun _ => rfl
  emb := fun _ => rfl
theorem fd_im_isObjective : FDok prog (166, D_im_isObjective) := fn_ok mixed (env_ok (List.forall_mem_cons.2 ⟨fd_im_between, fun _ h => absurd h List.not_mem_nil⟩)) tabOK ok_im_isObjective
theorem e_im_isFront : ∀ x : D_im_isFront.T, ((acode E_im_isFront tt Z_im_isFront (orcOf O_im_isFront) C_im_isFront (entry A_im_isFront I_im_isFront x)).map (keepRet tt K_im_isFront)).ev = ((T_im_isFront x.1.1.1 x.1.1.2.1 x.1.2.1 x.1.2.2.1).map fun r => some ((((r, ()), ())) : K_im_isFront.T)).ev := fun _ => by kernel_rfl
theorem o_im_isFront : LoopsOK E_im_isFront tt Z_im_isFront O_im_isFront C_im_isFront := by
  have h : loopsOf C_im_isFront = [] := by kernel_rfl
  unfold LoopsOK
  rw [h]
  exact fun _ h => absurd h List.not_mem_nil
theorem ok_im_isFront : FnOK prog E_im_isFront tt 116 D_im_isFront K_im_isFront Z_im_isFront O_im_isFront f116 C_im_isFront (fun x => T_im_isFront x.1.1.1 x.1.1.2.1 x.1.2.1 x.1.2.2.1) (fun r => ((r, ()), ())) where
  at_ := func116
  name := by kernel_rfl
  body := by kernel_rfl
  res := by kernel_rfl
  ok := by kernel_rfl
  arity := fun _ => Nat.le_of_ble_eq_true (by kernel_rfl)
  pin := fun _ => by kernel_rfl
  chk := by kernel_rfl
  loops := o_im_isFront
  run := e_im_isFront
  F := fun _ => rfl
  emb := fun _ => rfl
theorem fd_im_isFront : FDok prog (116, D_im_isFront) := fn_ok mixed (env_ok (List.forall_mem_cons.2 ⟨fd_im_IsField, List.forall_mem_cons.2 ⟨fd_im_isObjective, fun _ h => absurd h List.not_mem_nil⟩⟩)) tabOK ok_im_isFront
theorem e_im_bag_has : ∀ x : D_im_bag_has.T, ((acode E_im_bag_has tt Z_im_bag_has (orcOf O_im_bag_has) C_im_bag_has (entry A_im_bag_has I_im_bag_has x)).map (keepRet tt K_im_bag_has)).ev = ((T_im_bag_has x.1.1 x.1.2.1).map fun r => some ((((r, ()), ())) : K_im_bag_has.T)).ev := fun _ => by kernel_rfl
theorem o_im_bag_has : LoopsOK E_im_bag_has tt Z_im_bag_has O_im_bag_has C_im_bag_has := by
  have h : loopsOf C_im_bag_has = [] := by kernel_rfl
  unfold LoopsOK
  rw [h]
  exact fun _ h => absurd h List.not_mem_nil
theorem ok_im_bag_has : FnOK prog E_im_bag_has tt 152 D_im_bag_has K_im_bag_has Z_im_bag_has O_im_bag_has f152 C_im_bag_has (fun x => T_im_bag_has x.1.1 x.1.2.1) (fun r => ((r, ()), ())) where
  at_ := func152
  name := by kernel_rfl
  body := by kernel_rfl
  res := by kernel_rfl
  ok := by kernel_rfl
  arity := fun _ => Nat.le_of_ble_eq_true (by kernel_rfl)
  pin := fun _ => by kernel_rfl
  chk := by kernel_rfl
  loops := o_im_bag_has
  run := e_im_bag_has
  F := fun _ => rfl
  emb := fun _ => rfl
theorem fd_im_bag_has : FDok prog (152, D_im_bag_has) := fn_ok mixed (env_ok (fun _ h => absurd h List.not_mem_nil)) tabOK ok_im_bag_has
theorem e_im_bag_list : ∀ x : D_im_bag_list.T, ((acode E_im_bag_list tt Z_im_bag_list (orcOf O_im_bag_list) C_im_bag_list (entry A_im_bag_list I_im_bag_list x)).map (keepRet tt K_im_bag_list)).ev = ((T_im_bag_list x.1.1).map fun r => some (((((), ()), (r, ()))) : K_im_bag_list.T)).ev := fun _ => by kernel_rfl
noncomputable def B_im_bag_list_0 : Code := ((loopsOf C_im_bag_list).find? fun p => Nat.beq p.1 0).elim .skip (·.2)
theorem l_im_bag_list_0 : (DL_im_bag_list_0).OK E_im_bag_list tt Z_im_bag_list (orcOf O_im_bag_list) B_im_bag_list_0 where
  ok := by kernel_rfl
  oke := by kernel_rfl
  okr := by kernel_rfl
  eta := fun _ => rfl
  step := fun _ _ => by kernel_rfl
theorem o_im_bag_list : LoopsOK E_im_bag_list tt Z_im_bag_list O_im_bag_list C_im_bag_list := by
  have h : loopsOf C_im_bag_list = [(0, B_im_bag_list_0)] := by kernel_rfl
  unfold LoopsOK
  rw [h]
  exact List.forall_mem_cons.2 ⟨fun d h => (by have e : some (DL_im_bag_list_0) = some d := h; cases e; exact l_im_bag_list_0), fun _ h => absurd h List.not_mem_nil⟩
theorem ok_im_bag_list : FnOK prog E_im_bag_list tt 144 D_im_bag_list K_im_bag_list Z_im_bag_list O_im_bag_list f144 C_im_bag_list (fun x => T_im_bag_list x.1.1) (fun r => (((), ()), (r, ()))) where
  at_ := func144
  name := by kernel_rfl
  body := by kernel_rfl
  res := by kernel_rfl
  ok := by kernel_rfl
  arity := fun _ => Nat.le_of_ble_eq_true (by kernel_rfl)
  pin := fun _ => by kernel_rfl
  chk := by kernel_rfl
  loops := o_im_bag_list
  run := e_im_bag_list
  F := fun _ => rfl
  emb := fun _ => rfl
theorem fd_im_bag_list : FDok prog (144, D_im_bag_list) := fn_ok mixed (env_ok (List.forall_mem_cons.2 ⟨fd_im_bag_has, fun _ h => absurd h List.not_mem_nil⟩)) tabOK ok_im_bag_list
theorem e_math_bits_Len64 : ∀ x : D_math_bits_Len64.T, ((acode E_math_bits_Len64 tt Z_math_bits_Len64 (orcOf O_math_bits_Len64) C_math_bits_Len64 (entry A_math_bits_Len64 I_math_bits_Len64 x)).map (keepRet tt K_math_bits_Len64)).ev = ((T_math_bits_Len64 x.1.1).map fun r => some ((((r, ()), ())) : K_math_bits_Len64.T)).ev := fun _ => by kernel_rfl
theorem o_math_bits_Len64 : LoopsOK E_math_bits_Len64 tt Z_math_bits_Len64 O_math_bits_Len64 C_math_bits_Len64 := by
  have h : loopsOf C_math_bits_Len64 = [] := by kernel_rfl
  unfold LoopsOK
  rw [h]
  exact fun _ h => absurd h List.not_mem_nil
theorem ok_math_bits_Len64 : FnOK prog E_math_bits_Len64 tt 204 D_math_bits_Len64 K_math_bits_Len64 Z_math_bits_Len64 O_math_bits_Len64 f204 C_math_bits_Len64 (fun x => T_math_bits_Len64 x.1.1) (fun r => ((r, ()), ())) where
  at_ := func204
  name := by kernel_rfl
  body := by kernel_rfl
  res := by kernel_rfl
  ok := by kernel_rfl
  arity := fun _ => Nat.le_of_ble_eq_true (by kernel_rfl)
  pin := fun _ => by kernel_rfl
  chk := by kernel_rfl
  loops := o_math_bits_Len64
  run := e_math_bits_Len64
  F := fun _ => rfl
  emb := fun _ => rfl
theorem fd_math_bits_Len64 : FDok prog (204, D_math_bits_Len64) := fn_ok mixed (env_ok (fun _ h => absurd h List.not_mem_nil)) tabOK ok_math_bits_Len64
theorem e_math_bits_Len : ∀ x : D_math_bits_Len.T, ((acode E_math_bits_Len tt Z_math_bits_Len (orcOf O_math_bits_Len) C_math_bits_Len (entry A_math_bits_Len I_math_bits_Len x)).map (keepRet tt K_math_bits_Len)).ev = ((T_math_bits_Len x.1.1).map fun r => some ((((r, ()), ())) : K_math_bits_Len.T)).ev := fun _ => by kernel_rfl
theorem o_math_bits_Len : LoopsOK E_math_bits_Len tt Z_math_bits_Len O_math_bits_Len C_math_bits_Len := by
  have h : loopsOf C_math_bits_Len = [] := by kernel_rfl
  unfold LoopsOK
  rw [h]
  exact fun _ h => absurd h List.not_mem_nil
theorem ok_math_bits_Len : FnOK prog E_math_bits_Len tt 185 D_math_bits_Len K_math_bits_Len Z_math_bits_Len O_math_bits_Len f185 C_math_bits_Len (fun x => T_math_bits_Len x.1.1) (fun r => ((r, ()), ())) where
  at_ := func185
  name := by kernel_rfl
  body := by kernel_rfl
  res := by kernel_rfl
  ok := by kernel_rfl
  arity := fun _ => Nat.le_of_ble_eq_true (by kernel_rfl)
  pin := fun _ => by kernel_rfl
  chk := by kernel_rfl
  loops := o_math_bits_Len
  run := e_math_bits_Len
  F := fun _ => rfl
  emb := fun _ => rfl
theorem fd_math_bits_Len : FDok prog (185, D_math_bits_Len) := fn_ok mixed (env_ok (List.forall_mem_cons.2 ⟨fd_math_bits_Len64, fun _ h => absurd h List.not_mem_nil⟩)) tabOK ok_math_bits_Len
theorem e_slices_insertionSortCmpFunc_Sint : ∀ x : D_slices_insertionSortCmpFunc_Sint.T, ((acode E_slices_insertionSortCmpFunc_Sint tt Z_slices_insertionSortCmpFunc_Sint (orcOf O_slices_insertionSortCmpFunc_Sint) C_slices_insertionSortCmpFunc_Sint (entry A_slices_insertionSortCmpFunc_Sint I_slices_insertionSortCmpFunc_Sint x)).map (keepRet tt K_slices_insertionSortCmpFunc_Sint)).ev = ((T_slices_insertionSortCmpFunc_Sint x.1.2.1 x.1.2.2.1 x.1.2.2.2.1 x.2.1).map fun r => some ((((), (r, ()))) : K_slices_insertionSortCmpFunc_Sint.T)).ev := fun _ => by kernel_rfl
noncomputable def B_slices_insertionSortCmpFunc_Sint_2 : Code := ((loopsOf C_slices_insertionSortCmpFunc_Sint).find? fun p => Nat.beq p.1 2).elim .skip (·.2)
theorem l_slices_insertionSortCmpFunc_Sint_2 : (DL_slices_insertionSortCmpFunc_Sint_2).OK E_slices_insertionSortCmpFunc_Sint tt Z_slices_insertionSortCmpFunc_Sint (orcOf O_slices_insertionSortCmpFunc_Sint) B_slices_insertionSortCmpFunc_Sint_2 where
  ok := by kernel_rfl
  oke := by kernel_rfl
  okr := by kernel_rfl
  eta := fun _ => rfl
  step := fun _ _ => by kernel_rfl
noncomputable def B_slices_insertionSortCmpFunc_Sint_0 : Code := ((loopsOf C_slices_insertionSortCmpFunc_Sint).find? fun p => Nat.beq p.1 0).elim .skip (·.2)
theorem l_slices_insertionSortCmpFunc_Sint_0 : (DL_slices_insertionSortCmpFunc_Sint_0).OK E_slices_insertionSortCmpFunc_Sint tt Z_slices_insertionSortCmpFunc_Sint (orcOf O_slices_insertionSortCmpFunc_Sint) B_slices_insertionSortCmpFunc_Sint_0 where
  ok := by kernel_rfl
  oke := by kernel_rfl
  okr := by kernel_rfl
  eta := fun _ => rfl
  step := fun _ _ => by kernel_rfl
theorem o_slices_insertionSortCmpFunc_Sint : LoopsOK E_slices_insertionSortCmpFunc_Sint tt Z_slices_insertionSortCmpFunc_Sint O_slices_insertionSortCmpFunc_Sint C_slices_insertionSortCmpFunc_Sint := by
  have h : loopsOf C_slices_insertionSortCmpFunc_Sint = [(0, B_slices_insertionSortCmpFunc_Sint_0), (2, B_slices_insertionSortCmpFunc_Sint_2)] := by kernel_rfl
  unfold LoopsOK
  rw [h]
  exact List.forall_mem_cons.2 ⟨fun d h => (by have e : some (DL_slices_insertionSortCmpFunc_Sint_0) = some d := h; cases e; exact l_slices_insertionSortCmpFunc_Sint_0), List.forall_mem_cons.2 ⟨fun d h => (by have e : some (DL_slices_insertionSortCmpFunc_Sint_2) = some d := h; cases e; exact l_slices_insertionSortCmpFunc_Sint_2), fun _ h => absurd h List.not_mem_nil⟩⟩
theorem ok_slices_insertionSortCmpFunc_Sint : FnOK prog E_slices_insertionSortCmpFunc_Sint tt 205 D_slices_insertionSortCmpFunc_Sint K_slices_insertionSortCmpFunc_Sint Z_slices_insertionSortCmpFunc_Sint O_slices_insertionSortCmpFunc_Sint f205 C_slices_insertionSortCmpFunc_Sint (fun x => T_slices_insertionSortCmpFunc_Sint x.1.2.1 x.1.2.2.1 x.1.2.2.2.1 x.2.1) (fun r => ((), (r, ()))) where
  at_ := func205
  name := by kernel_rfl
  body := by kernel_rfl
  res := by kernel_rfl
  ok := by kernel_rfl
  arity := fun _ => Nat.le_of_ble_eq_true (by kernel_rfl)
  pin := fun _ => by kernel_rfl
  chk := by kernel_rfl
  loops := o_slices_insertionSortCmpFunc_Sint
  run := e_slices_insertionSortCmpFunc_Sint
  F := fun _ => rfl
  emb := fun _ => rfl
theorem fd_slices_insertionSortCmpFunc_Sint : FDok prog (205, D_slices_insertionSortCmpFunc_Sint) := fn_ok mixed (env_ok (fun _ h => absurd h List.not_mem_nil)) tabOK ok_slices_insertionSortCmpFunc_Sint
theorem e_slices_nextPowerOfTwo : ∀ x : D_slices_nextPowerOfTwo.T, ((acode E_slices_nextPowerOfTwo tt Z_slices_nextPowerOfTwo (orcOf O_slices_nextPowerOfTwo) C_slices_nextPowerOfTwo (entry A_slices_nextPowerOfTwo I_slices_nextPowerOfTwo x)).map (keepRet tt K_slices_nextPowerOfTwo)).ev = ((T_slices_nextPowerOfTwo x.1.1).map fun r => some ((((r, ()), ())) : K_slices_nextPowerOfTwo.T)).ev := fun _ => by kernel_rfl
theorem o_slices_nextPowerOfTwo : LoopsOK E_slices_nextPowerOfTwo tt Z_slices_nextPowerOfTwo O_slices_nextPowerOfTwo C_slices_nextPowerOfTwo := by
  have h : loopsOf C_slices_nextPowerOfTwo = [] := by kernel_rfl
  unfold LoopsOK
  rw [h]
  exact fun _ h => absurd h List.not_mem_nil
theorem ok_slices_nextPowerOfTwo : FnOK prog E_slices_nextPowerOfTwo tt 220 D_slices_nextPowerOfTwo K_slices_nextPowerOfTwo Z_slices_nextPowerOfTwo O_slices_nextPowerOfTwo f220 C_slices_nextPowerOfTwo (fun x => T_slices_nextPowerOfTwo x.1.1) (fun r => ((r, ()), ())) where
  at_ := func220
  name := by kernel_rfl
  body := by kernel_rfl
  res := by kernel_rfl
  ok := by kernel_rfl
  arity := fun _ => Nat.le_of_ble_eq_true (by kernel_rfl)
  pin := fun _ => by kernel_rfl
  chk := by kernel_rfl
  loops := o_slices_nextPowerOfTwo
  run := e_slices_nextPowerOfTwo
  F := fun _ => rfl
  emb := fun _ => rfl
theorem fd_slices_nextPowerOfTwo : FDok prog (220, D_slices_nextPowerOfTwo) := fn_ok mixed (env_ok (List.forall_mem_cons.2 ⟨fd_math_bits_Len, fun _ h => absurd h List.not_mem_nil⟩)) tabOK ok_slices_nextPowerOfTwo
theorem e_slices_xorshift_Next : ∀ x : D_slices_xorshift_Next.T, ((acode E_slices_xorshift_Next tt Z_slices_xorshift_Next (orcOf O_slices_xorshift_Next) C_slices_xorshift_Next (entry A_slices_xorshift_Next I_slices_xorshift_Next x)).map (keepRet tt K_slices_xorshift_Next)).ev = ((T_slices_xorshift_Next x.2.1.1).map fun r => some ((((r.1, ()), ((r.2, ()), ()))) : K_slices_xorshift_Next.T)).ev := fun _ => by kernel_rfl
theorem o_slices_xorshift_Next : LoopsOK E_slices_xorshift_Next tt Z_slices_xorshift_Next O_slices_xorshift_Next C_slices_xorshift_Next := by
  have h : loopsOf C_slices_xorshift_Next = [] := by kernel_rfl
  unfold LoopsOK
  rw [h]
  exact fun _ h => absurd h List.not_mem_nil
theorem ok_slices_xorshift_Next : FnOK prog E_slices_xorshift_Next tt 221 D_slices_xorshift_Next K_slices_xorshift_Next Z_slices_xorshift_Next O_slices_xorshift_Next f221 C_slices_xorshift_Next (fun x => T_slices_xorshift_Next x.2.1.1) (fun r => ((r.1, ()), ((r.2, ()), ()))) where
  at_ := func221
  name := by kernel_rfl
  body := by kernel_rfl
  res := by kernel_rfl
  ok := by kernel_rfl
  arity := fun _ => Nat.le_of_ble_eq_true (by kernel_rfl)
  pin := fun _ => by kernel_rfl
  chk := by kernel_rfl
  loops := o_slices_xorshift_Next
  run := e_slices_xorshift_Next
  F := fun _ => rfl
  emb := fun _ => rfl
theorem fd_slices_xorshift_Next : FDok prog (221, D_slices_xorshift_Next) := fn_ok mixed (env_ok (fun _ h => absurd h List.not_mem_nil)) tabOK ok_slices_xorshift_Next
theorem e_slices_breakPatternsCmpFunc_Sint : ∀ x : D_slices_breakPatternsCmpFunc_Sint.T, ((acode E_slices_breakPatternsCmpFunc_Sint tt Z_slices_breakPatternsCmpFunc_Sint (orcOf O_slices_breakPatternsCmpFunc_Sint) C_slices_breakPatternsCmpFunc_Sint (entry A_slices_breakPatternsCmpFunc_Sint I_slices_breakPatternsCmpFunc_Sint x)).map (keepRet tt K_slices_breakPatternsCmpFunc_Sint)).ev = ((T_slices_breakPatternsCmpFunc_Sint x.1.2.1 x.1.2.2.1 x.1.2.2.2.1 x.2.1).map fun r => some ((((), (r, ()))) : K_slices_breakPatternsCmpFunc_Sint.T)).ev := fun _ => by kernel_rfl
noncomputable def B_slices_breakPatternsCmpFunc_Sint_0 : Code := ((loopsOf C_slices_breakPatternsCmpFunc_Sint).find? fun p => Nat.beq p.1 0).elim .skip (·.2)
theorem l_slices_breakPatternsCmpFunc_Sint_0 : (DL_slices_breakPatternsCmpFunc_Sint_0).OK E_slices_breakPatternsCmpFunc_Sint tt Z_slices_breakPatternsCmpFunc_Sint (orcOf O_slices_breakPatternsCmpFunc_Sint) B_slices_breakPatternsCmpFunc_Sint_0 where
  ok := by kernel_rfl
  oke := by kernel_rfl
  okr := by kernel_rfl
  eta := fun _ => rfl
  step := fun _ _ => by kernel_rfl
theorem o_slices_breakPatternsCmpFunc_Sint : LoopsOK E_slices_breakPatternsCmpFunc_Sint tt Z_slices_breakPatternsCmpFunc_Sint O_slices_breakPatternsCmpFunc_Sint C_slices_breakPatternsCmpFunc_Sint := by
  have h : loopsOf C_slices_breakPatternsCmpFunc_Sint = [(0, B_slices_breakPatternsCmpFunc_Sint_0)] := by kernel_rfl
  unfold LoopsOK
  rw [h]
  exact List.forall_mem_cons.2 ⟨fun d h => (by have e : some (DL_slices_breakPatternsCmpFunc_Sint_0) = some d := h; cases e; exact l_slices_breakPatternsCmpFunc_Sint_0), fun _ h => absurd h List.not_mem_nil⟩
theorem ok_slices_breakPatternsCmpFunc_Sint : FnOK prog E_slices_breakPatternsCmpFunc_Sint tt 207 D_slices_breakPatternsCmpFunc_Sint K_slices_breakPatternsCmpFunc_Sint Z_slices_breakPatternsCmpFunc_Sint O_slices_breakPatternsCmpFunc_Sint f207 C_slices_breakPatternsCmpFunc_Sint (fun x => T_slices_breakPatternsCmpFunc_Sint x.1.2.1 x.1.2.2.1 x.1.2.2.2.1 x.2.1) (fun r => ((), (r, ()))) where
  at_ := func207
  name := by kernel_rfl
  body := by kernel_rfl
  res := by kernel_rfl
  ok := by kernel_rfl
  arity := fun _ => Nat.le_of_ble_eq_true (by kernel_rfl)
  pin := fun _ => by kernel_rfl
  chk := by kernel_rfl
  loops := o_slices_breakPatternsCmpFunc_Sint
  run := e_slices_breakPatternsCmpFunc_Sint
  F := fun _ => rfl
  emb := fun _ => rfl
theorem fd_slices_breakPatternsCmpFunc_Sint : FDok prog (207, D_slices_breakPatternsCmpFunc_Sint) := fn_ok mixed (env_ok (List.forall_mem_cons.2 ⟨fd_slices_nextPowerOfTwo, List.forall_mem_cons.2 ⟨fd_slices_xorshift_Next, fun _ h => absurd h List.not_mem_nil⟩⟩)) tabOK ok_slices_breakPatternsCmpFunc_Sint
theorem e_slices_order2CmpFunc_Sint : ∀ x : D_slices_order2CmpFunc_Sint.T, ((acode E_slices_order2CmpFunc_Sint tt Z_slices_order2CmpFunc_Sint (orcOf O_slices_order2CmpFunc_Sint) C_slices_order2CmpFunc_Sint (entry A_slices_order2CmpFunc_Sint I_slices_order2CmpFunc_Sint x)).map (keepRet tt K_slices_order2CmpFunc_Sint)).ev = ((T_slices_order2CmpFunc_Sint x.1.1 x.1.2.1 x.1.2.2.1 x.1.2.2.2.2.1 x.2.1.1).map fun r => some ((((r.1, (r.2.1, ())), ((r.2.2, ()), ()))) : K_slices_order2CmpFunc_Sint.T)).ev := fun _ => by kernel_rfl
theorem o_slices_order2CmpFunc_Sint : LoopsOK E_slices_order2CmpFunc_Sint tt Z_slices_order2CmpFunc_Sint O_slices_order2CmpFunc_Sint C_slices_order2CmpFunc_Sint := by
  have h : loopsOf C_slices_order2CmpFunc_Sint = [] := by kernel_rfl
  unfold LoopsOK
  rw [h]
  exact fun _ h => absurd h List.not_mem_nil
theorem ok_slices_order2CmpFunc_Sint : FnOK prog E_slices_order2CmpFunc_Sint tt 233 D_slices_order2CmpFunc_Sint K_slices_order2CmpFunc_Sint Z_slices_order2CmpFunc_Sint O_slices_order2CmpFunc_Sint f233 C_slices_order2CmpFunc_Sint (fun x => T_slices_order2CmpFunc_Sint x.1.1 x.1.2.1 x.1.2.2.1 x.1.2.2.2.2.1 x.2.1.1) (fun r => ((r.1, (r.2.1, ())), ((r.2.2, ()), ()))) where
  at_ := func233
  name := by kernel_rfl
  body := by kernel_rfl
  res := by kernel_rfl
  ok := by kernel_rfl
  arity := fun _ => Nat.le_of_ble_eq_true (by kernel_rfl)
  pin := fun _ => by kernel_rfl
  chk := by kernel_rfl
  loops := o_slices_order2CmpFunc_Sint
  run := e_slices_order2CmpFunc_Sint
  F := fun _ => rfl
  emb := fun _ => rfl
theorem fd_slices_order2CmpFunc_Sint : FDok prog (233, D_slices_order2CmpFunc_Sint) := fn_ok mixed (env_ok (fun _ h => absurd h List.not_mem_nil)) tabOK ok_slices_order2CmpFunc_Sint
theorem e_slices_medianCmpFunc_Sint : ∀ x : D_slices_medianCmpFunc_Sint.T, ((acode E_slices_medianCmpFunc_Sint tt Z_slices_medianCmpFunc_Sint (orcOf O_slices_medianCmpFunc_Sint) C_slices_medianCmpFunc_Sint (entry A_slices_medianCmpFunc_Sint I_slices_medianCmpFunc_Sint x)).map (keepRet tt K_slices_medianCmpFunc_Sint)).ev = ((T_slices_medianCmpFunc_Sint x.1.1 x.1.2.1 x.1.2.2.1 x.1.2.2.2.1 x.1.2.2.2.2.2.1 x.2.1.1).map fun r => some ((((r.1, ()), ((r.2, ()), ()))) : K_slices_medianCmpFunc_Sint.T)).ev := fun _ => by kernel_rfl
theorem o_slices_medianCmpFunc_Sint : LoopsOK E_slices_medianCmpFunc_Sint tt Z_slices_medianCmpFunc_Sint O_slices_medianCmpFunc_Sint C_slices_medianCmpFunc_Sint := by
  have h : loopsOf C_slices_medianCmpFunc_Sint = [] := by kernel_rfl
  unfold LoopsOK
  rw [h]
  exact fun _ h => absurd h List.not_mem_nil
theorem ok_slices_medianCmpFunc_Sint : FnOK prog E_slices_medianCmpFunc_Sint tt 226 D_slices_medianCmpFunc_Sint K_slices_medianCmpFunc_Sint Z_slices_medianCmpFunc_Sint O_slices_medianCmpFunc_Sint f226 C_slices_medianCmpFunc_Sint (fun x => T_slices_medianCmpFunc_Sint x.1.1 x.1.2.1 x.1.2.2.1 x.1.2.2.2.1 x.1.2.2.2.2.2.1 x.2.1.1) (fun r => ((r.1, ()), ((r.2, ()), ()))) where
  at_ := func226
  name := by kernel_rfl
  body := by kernel_rfl
  res := by kernel_rfl
  ok := by kernel_rfl
  arity := fun _ => Nat.le_of_ble_eq_true (by kernel_rfl)
  pin := fun _ => by kernel_rfl
  chk := by kernel_rfl
  loops := o_slices_medianCmpFunc_Sint
  run := e_slices_medianCmpFunc_Sint
  F := fun _ => rfl
  emb := fun _ => rfl
theorem fd_slices_medianCmpFunc_Sint : FDok prog (226, D_slices_medianCmpFunc_Sint) := fn_ok mixed (env_ok (List.forall_mem_cons.2 ⟨fd_slices_order2CmpFunc_Sint, fun _ h => absurd h List.not_mem_nil⟩)) tabOK ok_slices_medianCmpFunc_Sint
theorem e_slices_medianAdjacentCmpFunc_Sint : ∀ x : D_slices_medianAdjacentCmpFunc_Sint.T, ((acode E_slices_medianAdjacentCmpFunc_Sint tt Z_slices_medianAdjacentCmpFunc_Sint (orcOf O_slices_medianAdjacentCmpFunc_Sint) C_slices_medianAdjacentCmpFunc_Sint (entry A_slices_medianAdjacentCmpFunc_Sint I_slices_medianAdjacentCmpFunc_Sint x)).map (keepRet tt K_slices_medianAdjacentCmpFunc_Sint)).ev = ((T_slices_medianAdjacentCmpFunc_Sint x.1.1 x.1.2.1 x.1.2.2.2.1 x.2.1.1).map fun r => some ((((r.1, ()), ((r.2, ()), ()))) : K_slices_medianAdjacentCmpFunc_Sint.T)).ev := fun _ => by kernel_rfl
theorem o_slices_medianAdjacentCmpFunc_Sint : LoopsOK E_slices_medianAdjacentCmpFunc_Sint tt Z_slices_medianAdjacentCmpFunc_Sint O_slices_medianAdjacentCmpFunc_Sint C_slices_medianAdjacentCmpFunc_Sint := by
  have h : loopsOf C_slices_medianAdjacentCmpFunc_Sint = [] := by kernel_rfl
  unfold LoopsOK
  rw [h]
  exact fun _ h => absurd h List.not_mem_nil
theorem ok_slices_medianAdjacentCmpFunc_Sint : FnOK prog E_slices_medianAdjacentCmpFunc_Sint tt 225 D_slices_medianAdjacentCmpFunc_Sint K_slices_medianAdjacentCmpFunc_Sint Z_slices_medianAdjacentCmpFunc_Sint O_slices_medianAdjacentCmpFunc_Sint f225 C_slices_medianAdjacentCmpFunc_Sint (fun x => T_slices_medianAdjacentCmpFunc_Sint x.1.1 x.1.2.1 x.1.2.2.2.1 x.2.1.1) (fun r => ((r.1, ()), ((r.2, ()), ()))) where
  at_ := func225
  name := by kernel_rfl
  body := by kernel_rfl
  res := by kernel_rfl
  ok := by kernel_rfl
  arity := fun _ => Nat.le_of_ble_eq_true (by kernel_rfl)
  pin := fun _ => by kernel_rfl
  chk := by kernel_rfl
  loops := o_slices_medianAdjacentCmpFunc_Sint
  run := e_slices_medianAdjacentCmpFunc_Sint
  F := fun _ => rfl
  emb := fun _ => rfl
theorem fd_slices_medianAdjacentCmpFunc_Sint : FDok prog (225, D_slices_medianAdjacentCmpFunc_Sint) := fn_ok mixed (env_ok (List.forall_mem_cons.2 ⟨fd_slices_medianCmpFunc_Sint, fun _ h => absurd h List.not_mem_nil⟩)) tabOK ok_slices_medianAdjacentCmpFunc_Sint
theorem e_slices_choosePivotCmpFunc_Sint : ∀ x : D_slices_choosePivotCmpFunc_Sint.T, ((acode E_slices_choosePivotCmpFunc_Sint tt Z_slices_choosePivotCmpFunc_Sint (orcOf O_slices_choosePivotCmpFunc_Sint) C_slices_choosePivotCmpFunc_Sint (entry A_slices_choosePivotCmpFunc_Sint I_slices_choosePivotCmpFunc_Sint x)).map (keepRet tt K_slices_choosePivotCmpFunc_Sint)).ev = ((T_slices_choosePivotCmpFunc_Sint x.1.1 x.1.2.1 x.1.2.2.1 x.1.2.2.2.1).map fun r => some ((((r.1, (r.2, ())), ())) : K_slices_choosePivotCmpFunc_Sint.T)).ev := fun _ => by kernel_rfl
theorem o_slices_choosePivotCmpFunc_Sint : LoopsOK E_slices_choosePivotCmpFunc_Sint tt Z_slices_choosePivotCmpFunc_Sint O_slices_choosePivotCmpFunc_Sint C_slices_choosePivotCmpFunc_Sint := by
  have h : loopsOf C_slices_choosePivotCmpFunc_Sint = [] := by kernel_rfl
  unfold LoopsOK
  rw [h]
  exact fun _ h => absurd h List.not_mem_nil
theorem ok_slices_choosePivotCmpFunc_Sint : FnOK prog E_slices_choosePivotCmpFunc_Sint tt 208 D_slices_choosePivotCmpFunc_Sint K_slices_choosePivotCmpFunc_Sint Z_slices_choosePivotCmpFunc_Sint O_slices_choosePivotCmpFunc_Sint f208 C_slices_choosePivotCmpFunc_Sint (fun x => T_slices_choosePivotCmpFunc_Sint x.1.1 x.1.2.1 x.1.2.2.1 x.1.2.2.2.1) (fun r => ((r.1, (r.2, ())), ())) where
  at_ := func208
  name := by kernel_rfl
  body := by kernel_rfl
  res := by kernel_rfl
  ok := by kernel_rfl
  arity := fun _ => Nat.le_of_ble_eq_true (by kernel_rfl)
  pin := fun _ => by kernel_rfl
  chk := by kernel_rfl
  loops := o_slices_choosePivotCmpFunc_Sint
  run := e_slices_choosePivotCmpFunc_Sint
  F := fun _ => rfl
  emb := fun _ => rfl
theorem fd_slices_choosePivotCmpFunc_Sint : FDok prog (208, D_slices_choosePivotCmpFunc_Sint) := fn_ok mixed (env_ok (List.forall_mem_cons.2 ⟨fd_slices_medianAdjacentCmpFunc_Sint, List.forall_mem_cons.2 ⟨fd_slices_medianCmpFunc_Sint, fun _ h => absurd h List.not_mem_nil⟩⟩)) tabOK ok_slices_choosePivotCmpFunc_Sint
theorem e_slices_partitionCmpFunc_Sint : ∀ x : D_slices_partitionCmpFunc_Sint.T, ((acode E_slices_partitionCmpFunc_Sint tt Z_slices_partitionCmpFunc_Sint (orcOf O_slices_partitionCmpFunc_Sint) C_slices_partitionCmpFunc_Sint (entry A_slices_partitionCmpFunc_Sint I_slices_partitionCmpFunc_Sint x)).map (keepRet tt K_slices_partitionCmpFunc_Sint)).ev = ((T_slices_partitionCmpFunc_Sint x.1.2.1 x.1.2.2.1 x.1.2.2.2.1 x.1.2.2.2.2.1 x.2.1).map fun r => some ((((r.1, (r.2.1, ())), (r.2.2, ()))) : K_slices_partitionCmpFunc_Sint.T)).ev := fun _ => by kernel_rfl
noncomputable def B_slices_partitionCmpFunc_Sint_0 : Code := ((loopsOf C_slices_partitionCmpFunc_Sint).find? fun p => Nat.beq p.1 0).elim .skip (·.2)
theorem l_slices_partitionCmpFunc_Sint_0 : (DL_slices_partitionCmpFunc_Sint_0).OK E_slices_partitionCmpFunc_Sint tt Z_slices_partitionCmpFunc_Sint (orcOf O_slices_partitionCmpFunc_Sint) B_slices_partitionCmpFunc_Sint_0 where
  ok := by kernel_rfl
  oke := by kernel_rfl
  okr := by kernel_rfl
  eta := fun _ => rfl
  step := fun _ _ => by kernel_rfl
noncomputable def B_slices_partitionCmpFunc_Sint_2 : Code := ((loopsOf C_slices_partitionCmpFunc_Sint).find? fun p => Nat.beq p.1 2).elim .skip (·.2)
theorem l_slices_partitionCmpFunc_Sint_2 : (DL_slices_partitionCmpFunc_Sint_2).OK E_slices_partitionCmpFunc_Sint tt Z_slices_partitionCmpFunc_Sint (orcOf O_slices_partitionCmpFunc_Sint) B_slices_partitionCmpFunc_Sint_2 where
  ok := by kernel_rfl
  oke := by kernel_rfl
  okr := by kernel_rfl
  eta := fun _ => rfl
  step := fun _ _ => by kernel_rfl
noncomputable def B_slices_partitionCmpFunc_Sint_6 : Code := ((loopsOf C_slices_partitionCmpFunc_Sint).find? fun p => Nat.beq p.1 6).elim .skip (·.2)
theorem l_slices_partitionCmpFunc_Sint_6 : (DL_slices_partitionCmpFunc_Sint_6).OK E_slices_partitionCmpFunc_Sint tt Z_slices_partitionCmpFunc_Sint (orcOf O_slices_partitionCmpFunc_Sint) B_slices_partitionCmpFunc_Sint_6 where
  ok := by kernel_rfl
  oke := by kernel_rfl
  okr := by kernel_rfl
  eta := fun _ => rfl
  step := fun _ _ => by kernel_rfl
noncomputable def B_slices_partitionCmpFunc_Sint_8 : Code := ((loopsOf C_slices_partitionCmpFunc_Sint).find? fun p => Nat.beq p.1 8).elim .skip (·.2)
theorem l_slices_partitionCmpFunc_Sint_8 : (DL_slices_partitionCmpFunc_Sint_8).OK E_slices_partitionCmpFunc_Sint tt Z_slices_partitionCmpFunc_Sint (orcOf O_slices_partitionCmpFunc_Sint) B_slices_partitionCmpFunc_Sint_8 where
  ok := by kernel_rfl
  oke := by kernel_rfl
  okr := by kernel_rfl
  eta := fun _ => rfl
  step := fun _ _ => by kernel_rfl
noncomputable def B_slices_partitionCmpFunc_Sint_4 : Code := ((loopsOf C_slices_partitionCmpFunc_Sint).find? fun p => Nat.beq p.1 4).elim .skip (·.2)
theorem l_slices_partitionCmpFunc_Sint_4 : (DL_slices_partitionCmpFunc_Sint_4).OK E_slices_partitionCmpFunc_Sint tt Z_slices_partitionCmpFunc_Sint (orcOf O_slices_partitionCmpFunc_Sint) B_slices_partitionCmpFunc_Sint_4 where
  ok := by kernel_rfl
  oke := by kernel_rfl
  okr := by kernel_rfl
  eta := fun _ => rfl
  step := fun _ _ => by kernel_rfl
theorem o_slices_partitionCmpFunc_Sint : LoopsOK E_slices_partitionCmpFunc_Sint tt Z_slices_partitionCmpFunc_Sint O_slices_partitionCmpFunc_Sint C_slices_partitionCmpFunc_Sint := by
  have h : loopsOf C_slices_partitionCmpFunc_Sint = [(0, B_slices_partitionCmpFunc_Sint_0), (2, B_slices_partitionCmpFunc_Sint_2), (4, B_slices_partitionCmpFunc_Sint_4), (6, B_slices_partitionCmpFunc_Sint_6), (8, B_slices_partitionCmpFunc_Sint_8)] := by kernel_rfl
  unfold LoopsOK
  rw [h]
  exact List.forall_mem_cons.2 ⟨fun d h => (by have e : some (DL_slices_partitionCmpFunc_Sint_0) = some d := h; cases e; exact l_slices_partitionCmpFunc_Sint_0), List.forall_mem_cons.2 ⟨fun d h => (by have e : some (DL_slices_partitionCmpFunc_Sint_2) = some d := h; cases e; exact l_slices_partitionCmpFunc_Sint_2), List.forall_mem_cons.2 ⟨fun d h => (by have e : some (DL_slices_partitionCmpFunc_Sint_4) = some d := h; cases e; exact l_slices_partitionCmpFunc_Sint_4), List.forall_mem_cons.2 ⟨fun d h => (by have e : some (DL_slices_partitionCmpFunc_Sint_6) = some d := h; cases e; exact l_slices_partitionCmpFunc_Sint_6), List.forall_mem_cons.2 ⟨fun d h => (by have e : some (DL_slices_partitionCmpFunc_Sint_8) = some d := h; cases e; exact l_slices_partitionCmpFunc_Sint_8), fun _ h => absurd h List.not_mem_nil⟩⟩⟩⟩⟩
theorem ok_slices_partitionCmpFunc_Sint : FnOK prog E_slices_partitionCmpFunc_Sint tt 212 D_slices_partitionCmpFunc_Sint K_slices_partitionCmpFunc_Sint Z_slices_partitionCmpFunc_Sint O_slices_partitionCmpFunc_Sint f212 C_slices_partitionCmpFunc_Sint (fun x => T_slices_partitionCmpFunc_Sint x.1.2.1 x.1.2.2.1 x.1.2.2.2.1 x.1.2.2.2.2.1 x.2.1) (fun r => ((r.1, (r.2.1, ())), (r.2.2, ()))) where
  at_ := func212
  name := by kernel_rfl
  body := by kernel_rfl
  res := by kernel_rfl
  ok := by kernel_rfl
  arity := fun _ => Nat.le_of_ble_eq_true (by kernel_rfl)
  pin := fun _ => by kernel_rfl
  chk := by kernel_rfl
  loops := o_slices_partitionCmpFunc_Sint
  run := e_slices_partitionCmpFunc_Sint
  F := fun _ => rfl
  emb := fun _ => rfl
theorem fd_slices_partitionCmpFunc_Sint : FDok prog (212, D_slices_partitionCmpFunc_Sint) := fn_ok mixed (env_ok (fun _ h => absurd h List.not_mem_nil)) tabOK ok_slices_partitionCmpFunc_Sint
theorem e_slices_pdqsortCmpFunc_Sint (rec_ : (Int) → (Int) → (Int) → ((HL [(.slice (.int .i64)), (.slice (.int .i64))] → Option (Int))) → ((List Nat) × (List (List (Int)))) → Option ((List Nat) × (List (List (Int))))) : ∀ x : (Dr_slices_pdqsortCmpFunc_Sint rec_).T, ((acode (E_slices_pdqsortCmpFunc_Sint rec_) tt Z_slices_pdqsortCmpFunc_Sint (orcOf (O_slices_pdqsortCmpFunc_Sint rec_)) C_slices_pdqsortCmpFunc_Sint (entry A_slices_pdqsortCmpFunc_Sint I_slices_pdqsortCmpFunc_Sint x)).map (keepRet tt K_slices_pdqsortCmpFunc_Sint)).ev = ((T_slices_pdqsortCmpFunc_Sint rec_ x.1.2.1 x.1.2.2.1 x.1.2.2.2.1 x.1.2.2.2.2.1 x.2.1).map fun r => some ((((), (r, ()))) : K_slices_pdqsortCmpFunc_Sint.T)).ev := fun _ => by kernel_rfl
noncomputable def B_slices_pdqsortCmpFunc_Sint_0 : Code := ((loopsOf C_slices_pdqsortCmpFunc_Sint).find? fun p => Nat.beq p.1 0).elim .skip (·.2)
theorem l_slices_pdqsortCmpFunc_Sint_0 (rec_ : (Int) → (Int) → (Int) → ((HL [(.slice (.int .i64)), (.slice (.int .i64))] → Option (Int))) → ((List Nat) × (List (List (Int)))) → Option ((List Nat) × (List (List (Int))))) : (DL_slices_pdqsortCmpFunc_Sint_0 rec_).OK (E_slices_pdqsortCmpFunc_Sint rec_) tt Z_slices_pdqsortCmpFunc_Sint (orcOf (O_slices_pdqsortCmpFunc_Sint rec_)) B_slices_pdqsortCmpFunc_Sint_0 where
  ok := by kernel_rfl
  oke := by kernel_rfl
  okr := by kernel_rfl
  eta := fun _ => rfl
  step := fun _ _ => by kernel_rfl
theorem o_slices_pdqsortCmpFunc_Sint (rec_ : (Int) → (Int) → (Int) → ((HL [(.slice (.int .i64)), (.slice (.int .i64))] → Option (Int))) → ((List Nat) × (List (List (Int)))) → Option ((List Nat) × (List (List (Int))))) : LoopsOK (E_slices_pdqsortCmpFunc_Sint rec_) tt Z_slices_pdqsortCmpFunc_Sint (O_slices_pdqsortCmpFunc_Sint rec_) C_slices_pdqsortCmpFunc_Sint := by
  have h : loopsOf C_slices_pdqsortCmpFunc_Sint = [(0, B_slices_pdqsortCmpFunc_Sint_0)] := by kernel_rfl
  unfold LoopsOK
  rw [h]
  exact List.forall_mem_cons.2 ⟨fun d h => (by have e : some (DL_slices_pdqsortCmpFunc_Sint_0 rec_) = some d := h; cases e; exact l_slices_pdqsortCmpFunc_Sint_0 rec_), fun _ h => absurd h List.not_mem_nil⟩
theorem ok_slices_pdqsortCmpFunc_Sint (n : Nat) : FnOK prog (E_slices_pdqsortCmpFunc_Sint (F_slices_pdqsortCmpFunc_Sint n)) tt 187 (D_slices_pdqsortCmpFunc_Sint (n + 1)) K_slices_pdqsortCmpFunc_Sint Z_slices_pdqsortCmpFunc_Sint (O_slices_pdqsortCmpFunc_Sint (F_slices_pdqsortCmpFunc_Sint n)) f187 C_slices_pdqsortCmpFunc_Sint (fun x => T_slices_pdqsortCmpFunc_Sint (F_slices_pdqsortCmpFunc_Sint n) x.1.2.1 x.1.2.2.1 x.1.2.2.2.1 x.1.2.2.2.2.1 x.2.1) (fun r => ((), (r, ()))) where
  at_ := func187
  name := by kernel_rfl
  body := by kernel_rfl
  res := by kernel_rfl
  ok := by kernel_rfl
  arity := fun _ => Nat.le_of_ble_eq_true (by kernel_rfl)
  pin := fun _ => by kernel_rfl
  chk := by kernel_rfl
  loops := o_slices_pdqsortCmpFunc_Sint (F_slices_pdqsortCmpFunc_Sint n)
  run := e_slices_pdqsortCmpFunc_Sint (F_slices_pdqsortCmpFunc_Sint n)
  F := fun _ => rfl
  emb := fun _ => rfl
theorem fd_slices_pdqsortCmpFunc_Sint : ∀ n : Nat, FDok prog (187, D_slices_pdqsortCmpFunc_Sint n)
  | 0 => fun _ _ h => nomatch h
  | n + 1 => fn_ok mixed (env_ok (List.forall_mem_cons.2 ⟨fd_slices_insertionSortCmpFunc_Sint, List.forall_mem_cons.2 ⟨fd_slices_breakPatternsCmpFunc_Sint, List.forall_mem_cons.2 ⟨fd_slices_choosePivotCmpFunc_Sint, List.forall_mem_cons.2 ⟨fd_slices_partitionCmpFunc_Sint, List.forall_mem_cons.2 ⟨fd_slices_pdqsortCmpFunc_Sint n, fun _ h => absurd h List.not_mem_nil⟩⟩⟩⟩⟩)) tabOK (ok_slices_pdqsortCmpFunc_Sint n)
theorem e_slices_SortFunc_SSint_Sint : ∀ x : D_slices_SortFunc_SSint_Sint.T, ((acode E_slices_SortFunc_SSint_Sint tt Z_slices_SortFunc_SSint_Sint (orcOf O_slices_SortFunc_SSint_Sint) C_slices_SortFunc_SSint_Sint (entry A_slices_SortFunc_SSint_Sint I_slices_SortFunc_SSint_Sint x)).map (keepRet tt K_slices_SortFunc_SSint_Sint)).ev = ((T_slices_SortFunc_SSint_Sint x.1.2.1 x.2.1).map fun r => some ((((), (r, ()))) : K_slices_SortFunc_SSint_Sint.T)).ev := fun _ => by kernel_rfl
theorem o_slices_SortFunc_SSint_Sint : LoopsOK E_slices_SortFunc_SSint_Sint tt Z_slices_SortFunc_SSint_Sint O_slices_SortFunc_SSint_Sint C_slices_SortFunc_SSint_Sint := by
  have h : loopsOf C_slices_SortFunc_SSint_Sint = [] := by kernel_rfl
  unfold LoopsOK
  rw [h]
  exact fun _ h => absurd h List.not_mem_nil
theorem ok_slices_SortFunc_SSint_Sint : FnOK prog E_slices_SortFunc_SSint_Sint tt 168 D_slices_SortFunc_SSint_Sint K_slices_SortFunc_SSint_Sint Z_slices_SortFunc_SSint_Sint O_slices_SortFunc_SSint_Sint f168 C_slices_SortFunc_SSint_Sint (fun x => T_slices_SortFunc_SSint_Sint x.1.2.1 x.2.1) (fun r => ((), (r, ()))) where
  at_ := func168
  name := by kernel_rfl
  body := by kernel_rfl
  res := by kernel_rfl
  ok := by kernel_rfl
  arity := fun _ => Nat.le_of_ble_eq_true (by kernel_rfl)
  pin := fun _ => by kernel_rfl
  chk := by kernel_rfl
  loops := o_slices_SortFunc_SSint_Sint
  run := e_slices_SortFunc_SSint_Sint
  F := fun _ => rfl
  emb := fun _ => rfl
theorem fd_slices_SortFunc_SSint_Sint : FDok prog (168, D_slices_SortFunc_SSint_Sint) := fn_ok mixed (env_ok (List.forall_mem_cons.2 ⟨fd_math_bits_Len, List.forall_mem_cons.2 ⟨fd_slices_pdqsortCmpFunc_Sint 1000000, fun _ h => absurd h List.not_mem_nil⟩⟩)) tabOK ok_slices_SortFunc_SSint_Sint
theorem e_cmp_isNaN_int : ∀ x : D_cmp_isNaN_int.T, ((acode E_cmp_isNaN_int tt Z_cmp_isNaN_int (orcOf O_cmp_isNaN_int) C_cmp_isNaN_int (entry A_cmp_isNaN_int I_cmp_isNaN_int x)).map (keepRet tt K_cmp_isNaN_int)).ev = ((T_cmp_isNaN_int x.1.1).map fun r => some ((((r, ()), ())) : K_cmp_isNaN_int.T)).ev := fun _ => by kernel_rfl
theorem o_cmp_isNaN_int : LoopsOK E_cmp_isNaN_int tt Z_cmp_isNaN_int O_cmp_isNaN_int C_cmp_isNaN_int := by
  have h : loopsOf C_cmp_isNaN_int = [] := by kernel_rfl
  unfold LoopsOK
  rw [h]
  exact fun _ h => absurd h List.not_mem_nil
theorem ok_cmp_isNaN_int : FnOK prog E_cmp_isNaN_int tt 213 D_cmp_isNaN_int K_cmp_isNaN_int Z_cmp_isNaN_int O_cmp_isNaN_int f213 C_cmp_isNaN_int (fun x => T_cmp_isNaN_int x.1.1) (fun r => ((r, ()), ())) where
  at_ := func213
  name := by kernel_rfl
  body := by kernel_rfl
  res := by kernel_rfl
  ok := by kernel_rfl
  arity := fun _ => Nat.le_of_ble_eq_true (by kernel_rfl)
  pin := fun _ => by kernel_rfl
  chk := by kernel_rfl
  loops := o_cmp_isNaN_int
  run := e_cmp_isNaN_int
  F := fun _ => rfl
  emb := fun _ => rfl
theorem fd_cmp_isNaN_int : FDok prog (213, D_cmp_isNaN_int) := fn_ok mixed (env_ok (fun _ h => absurd h List.not_mem_nil)) tabOK ok_cmp_isNaN_int
theorem e_cmp_Compare_int : ∀ x : D_cmp_Compare_int.T, ((acode E_cmp_Compare_int tt Z_cmp_Compare_int (orcOf O_cmp_Compare_int) C_cmp_Compare_int (entry A_cmp_Compare_int I_cmp_Compare_int x)).map (keepRet tt K_cmp_Compare_int)).ev = ((T_cmp_Compare_int x.1.1 x.1.2.1).map fun r => some ((((r, ()), ())) : K_cmp_Compare_int.T)).ev := fun _ => by kernel_rfl
theorem o_cmp_Compare_int : LoopsOK E_cmp_Compare_int tt Z_cmp_Compare_int O_cmp_Compare_int C_cmp_Compare_int := by
  have h : loopsOf C_cmp_Compare_int = [] := by kernel_rfl
  unfold LoopsOK
  rw [h]
  exact fun _ h => absurd h List.not_mem_nil
theorem ok_cmp_Compare_int : FnOK prog E_cmp_Compare_int tt 189 D_cmp_Compare_int K_cmp_Compare_int Z_cmp_Compare_int O_cmp_Compare_int f189 C_cmp_Compare_int (fun x => T_cmp_Compare_int x.1.1 x.1.2.1) (fun r => ((r, ()), ())) where
  at_ := func189
  name := by kernel_rfl
  body := by kernel_rfl
  res := by kernel_rfl
  ok := by kernel_rfl
  arity := fun _ => Nat.le_of_ble_eq_true (by kernel_rfl)
  pin := fun _ => by kernel_rfl
  chk := by kernel_rfl
  loops := o_cmp_Compare_int
  run := e_cmp_Compare_int
  F := fun _ => rfl
  emb := fun _ => rfl
theorem fd_cmp_Compare_int : FDok prog (189, D_cmp_Compare_int) := fn_ok mixed (env_ok (List.forall_mem_cons.2 ⟨fd_cmp_isNaN_int, fun _ h => absurd h List.not_mem_nil⟩)) tabOK ok_cmp_Compare_int
theorem e_slices_Compare_Sint_int : ∀ x : D_slices_Compare_Sint_int.T, ((acode E_slices_Compare_Sint_int tt Z_slices_Compare_Sint_int (orcOf O_slices_Compare_Sint_int) C_slices_Compare_Sint_int (entry A_slices_Compare_Sint_int I_slices_Compare_Sint_int x)).map (keepRet tt K_slices_Compare_Sint_int)).ev = ((T_slices_Compare_Sint_int x.1.1 x.1.2.1).map fun r => some ((((r, ()), ())) : K_slices_Compare_Sint_int.T)).ev := fun _ => by kernel_rfl
noncomputable def B_slices_Compare_Sint_int_0 : Code := ((loopsOf C_slices_Compare_Sint_int).find? fun p => Nat.beq p.1 0).elim .skip (·.2)
theorem l_slices_Compare_Sint_int_0 : (DL_slices_Compare_Sint_int_0).OK E_slices_Compare_Sint_int tt Z_slices_Compare_Sint_int (orcOf O_slices_Compare_Sint_int) B_slices_Compare_Sint_int_0 where
  ok := by kernel_rfl
  oke := by kernel_rfl
  okr := by kernel_rfl
  eta := fun _ => rfl
  step := fun _ _ => by kernel_rfl
theorem o_slices_Compare_Sint_int : LoopsOK E_slices_Compare_Sint_int tt Z_slices_Compare_Sint_int O_slices_Compare_Sint_int C_slices_Compare_Sint_int := by
  have h : loopsOf C_slices_Compare_Sint_int = [(0, B_slices_Compare_Sint_int_0)] := by kernel_rfl
  unfold LoopsOK
  rw [h]
  exact List.forall_mem_cons.2 ⟨fun d h => (by have e : some (DL_slices_Compare_Sint_int_0) = some d := h; cases e; exact l_slices_Compare_Sint_int_0), fun _ h => absurd h List.not_mem_nil⟩
theorem ok_slices_Compare_Sint_int : FnOK prog E_slices_Compare_Sint_int tt 190 D_slices_Compare_Sint_int K_slices_Compare_Sint_int Z_slices_Compare_Sint_int O_slices_Compare_Sint_int f190 C_slices_Compare_Sint_int (fun x => T_slices_Compare_Sint_int x.1.1 x.1.2.1) (fun r => ((r, ()), ())) where
  at_ := func190
  name := by kernel_rfl
  body := by kernel_rfl
  res := by kernel_rfl
  ok := by kernel_rfl
  arity := fun _ => Nat.le_of_ble_eq_true (by kernel_rfl)
  pin := fun _ => by kernel_rfl
  chk := by kernel_rfl
  loops := o_slices_Compare_Sint_int
  run := e_slices_Compare_Sint_int
  F := fun _ => rfl
  emb := fun _ => rfl
theorem fd_slices_Compare_Sint_int : FDok prog (190, D_slices_Compare_Sint_int) := fn_ok mixed (env_ok (List.forall_mem_cons.2 ⟨fd_cmp_Compare_int, fun _ h => absurd h List.not_mem_nil⟩)) tabOK ok_slices_Compare_Sint_int
theorem e_cmp_Or_int : ∀ x : D_cmp_Or_int.T, ((acode E_cmp_Or_int tt Z_cmp_Or_int (orcOf O_cmp_Or_int) C_cmp_Or_int (entry A_cmp_Or_int I_cmp_Or_int x)).map (keepRet tt K_cmp_Or_int)).ev = ((T_cmp_Or_int x.1.1).map fun r => some ((((r, ()), ())) : K_cmp_Or_int.T)).ev := fun _ => by kernel_rfl
noncomputable def B_cmp_Or_int_0 : Code := ((loopsOf C_cmp_Or_int).find? fun p => Nat.beq p.1 0).elim .skip (·.2)
theorem l_cmp_Or_int_0 : (DL_cmp_Or_int_0).OK E_cmp_Or_int tt Z_cmp_Or_int (orcOf O_cmp_Or_int) B_cmp_Or_int_0 where
  ok := by kernel_rfl
  oke := by kernel_rfl
  okr := by kernel_rfl
  eta := fun _ => rfl
  step := fun _ _ => by kernel_rfl
theorem o_cmp_Or_int : LoopsOK E_cmp_Or_int tt Z_cmp_Or_int O_cmp_Or_int C_cmp_Or_int := by
  have h : loopsOf C_cmp_Or_int = [(0, B_cmp_Or_int_0)] := by kernel_rfl
  unfold LoopsOK
  rw [h]
  exact List.forall_mem_cons.2 ⟨fun d h => (by have e : some (DL_cmp_Or_int_0) = some d := h; cases e; exact l_cmp_Or_int_0), fun _ h => absurd h List.not_mem_nil⟩
theorem ok_cmp_Or_int : FnOK prog E_cmp_Or_int tt 188 D_cmp_Or_int K_cmp_Or_int Z_cmp_Or_int O_cmp_Or_int f188 C_cmp_Or_int (fun x => T_cmp_Or_int x.1.1) (fun r => ((r, ()), ())) where
  at_ := func188
  name := by kernel_rfl
  body := by kernel_rfl
  res := by kernel_rfl
  ok := by kernel_rfl
  arity := fun _ => Nat.le_of_ble_eq_true (by kernel_rfl)
  pin := fun _ => by kernel_rfl
  chk := by kernel_rfl
  loops := o_cmp_Or_int
  run := e_cmp_Or_int
  F := fun _ => rfl
  emb := fun _ => rfl
theorem fd_cmp_Or_int : FDok prog (188, D_cmp_Or_int) := fn_ok mixed (env_ok (fun _ h => absurd h List.not_mem_nil)) tabOK ok_cmp_Or_int
theorem e_im_compareSets : ∀ x : D_im_compareSets.T, ((acode E_im_compareSets tt Z_im_compareSets (orcOf O_im_compareSets) C_im_compareSets (entry A_im_compareSets I_im_compareSets x)).map (keepRet tt K_im_compareSets)).ev = ((T_im_compareSets x.1.1 x.1.2.1).map fun r => some ((((r, ()), ())) : K_im_compareSets.T)).ev := fun _ => by kernel_rfl
theorem o_im_compareSets : LoopsOK E_im_compareSets tt Z_im_compareSets O_im_compareSets C_im_compareSets := by
  have h : loopsOf C_im_compareSets = [] := by kernel_rfl
  unfold LoopsOK
  rw [h]
  exact fun _ h => absurd h List.not_mem_nil
theorem ok_im_compareSets : FnOK prog E_im_compareSets tt 169 D_im_compareSets K_im_compareSets Z_im_compareSets O_im_compareSets f169 C_im_compareSets (fun x => T_im_compareSets x.1.1 x.1.2.1) (fun r => ((r, ()), ())) where
  at_ := func169
  name := by kernel_rfl
  body := by kernel_rfl
  res := by kernel_rfl
  ok := by kernel_rfl
  arity := fun _ => Nat.le_of_ble_eq_true (by kernel_rfl)
  pin := fun _ => by kernel_rfl
  chk := by kernel_rfl
  loops := o_im_compareSets
  run := e_im_compareSets
  F := fun _ => rfl
  emb := fun _ => rfl
theorem fd_im_compareSets : FDok prog (169, D_im_compareSets) := fn_ok mixed (env_ok (List.forall_mem_cons.2 ⟨fd_cmp_Compare_int, List.forall_mem_cons.2 ⟨fd_slices_Compare_Sint_int, List.forall_mem_cons.2 ⟨fd_cmp_Or_int, fun _ h => absurd h List.not_mem_nil⟩⟩⟩)) tabOK ok_im_compareSets
theorem e_im_sets : ∀ x : D_im_sets.T, ((acode E_im_sets tt Z_im_sets (orcOf O_im_sets) C_im_sets (entry A_im_sets I_im_sets x)).map (keepRet tt K_im_sets)).ev = ((T_im_sets x.1.1).map fun r => some (((((), ()), (r, ()))) : K_im_sets.T)).ev := fun _ => by kernel_rfl
noncomputable def B_im_sets_0 : Code := ((loopsOf C_im_sets).find? fun p => Nat.beq p.1 0).elim .skip (·.2)
theorem l_im_sets_0 : (DL_im_sets_0).OK E_im_sets tt Z_im_sets (orcOf O_im_sets) B_im_sets_0 where
  ok := by kernel_rfl
  oke := by kernel_rfl
  okr := by kernel_rfl
  eta := fun _ => rfl
  step := fun _ _ => by kernel_rfl
theorem o_im_sets : LoopsOK E_im_sets tt Z_im_sets O_im_sets C_im_sets := by
  have h : loopsOf C_im_sets = [(0, B_im_sets_0)] := by kernel_rfl
  unfold LoopsOK
  rw [h]
  exact List.forall_mem_cons.2 ⟨fun d h => (by have e : some (DL_im_sets_0) = some d := h; cases e; exact l_im_sets_0), fun _ h => absurd h List.not_mem_nil⟩
theorem ok_im_sets : FnOK prog E_im_sets tt 118 D_im_sets K_im_sets Z_im_sets O_im_sets f118 C_im_sets (fun x => T_im_sets x.1.1) (fun r => (((), ()), (r, ()))) where
  at_ := func118
  name := by kernel_rfl
  body := by kernel_rfl
  res := by kernel_rfl
  ok := by kernel_rfl
  arity := fun _ => Nat.le_of_ble_eq_true (by kernel_rfl)
  pin := fun _ => by kernel_rfl
  chk := by kernel_rfl
  loops := o_im_sets
  run := e_im_sets
  F := fun _ => rfl
  emb := fun _ => rfl
theorem fd_im_sets : FDok prog (118, D_im_sets) := fn_ok mixed (env_ok (List.forall_mem_cons.2 ⟨fd_im_bag_list, List.forall_mem_cons.2 ⟨fd_slices_SortFunc_SSint_Sint, List.forall_mem_cons.2 ⟨fd_slices_SortFunc_SSint_Sint, List.forall_mem_cons.2 ⟨fd_im_compareSets, fun _ h => absurd h List.not_mem_nil⟩⟩⟩⟩)) tabOK ok_im_sets
theorem e_slices_DeleteFunc_SSint_Sint : ∀ x : D_slices_DeleteFunc_SSint_Sint.T, ((acode E_slices_DeleteFunc_SSint_Sint tt Z_slices_DeleteFunc_SSint_Sint (orcOf O_slices_DeleteFunc_SSint_Sint) C_slices_DeleteFunc_SSint_Sint (entry A_slices_DeleteFunc_SSint_Sint I_slices_DeleteFunc_SSint_Sint x)).map (keepRet tt K_slices_DeleteFunc_SSint_Sint)).ev = ((T_slices_DeleteFunc_SSint_Sint x.1.2.1 x.2.1).map fun r => some (((((), ()), (r, ()))) : K_slices_DeleteFunc_SSint_Sint.T)).ev := fun _ => by kernel_rfl
noncomputable def B_slices_DeleteFunc_SSint_Sint_0 : Code := ((loopsOf C_slices_DeleteFunc_SSint_Sint).find? fun p => Nat.beq p.1 0).elim .skip (·.2)
theorem l_slices_DeleteFunc_SSint_Sint_0 : (DL_slices_DeleteFunc_SSint_Sint_0).OK E_slices_DeleteFunc_SSint_Sint tt Z_slices_DeleteFunc_SSint_Sint (orcOf O_slices_DeleteFunc_SSint_Sint) B_slices_DeleteFunc_SSint_Sint_0 where
  ok := by kernel_rfl
  oke := by kernel_rfl
  okr := by kernel_rfl
  eta := fun _ => rfl
  step := fun _ _ => by kernel_rfl
theorem o_slices_DeleteFunc_SSint_Sint : LoopsOK E_slices_DeleteFunc_SSint_Sint tt Z_slices_DeleteFunc_SSint_Sint O_slices_DeleteFunc_SSint_Sint C_slices_DeleteFunc_SSint_Sint := by
  have h : loopsOf C_slices_DeleteFunc_SSint_Sint = [(0, B_slices_DeleteFunc_SSint_Sint_0)] := by kernel_rfl
  unfold LoopsOK
  rw [h]
  exact List.forall_mem_cons.2 ⟨fun d h => (by have e : some (DL_slices_DeleteFunc_SSint_Sint_0) = some d := h; cases e; exact l_slices_DeleteFunc_SSint_Sint_0), fun _ h => absurd h List.not_mem_nil⟩
theorem ok_slices_DeleteFunc_SSint_Sint : FnOK prog E_slices_DeleteFunc_SSint_Sint tt 117 D_slices_DeleteFunc_SSint_Sint K_slices_DeleteFunc_SSint_Sint Z_slices_DeleteFunc_SSint_Sint O_slices_DeleteFunc_SSint_Sint f117 C_slices_DeleteFunc_SSint_Sint (fun x => T_slices_DeleteFunc_SSint_Sint x.1.2.1 x.2.1) (fun r => (((), ()), (r, ()))) where
  at_ := func117
  name := by kernel_rfl
  body := by kernel_rfl
  res := by kernel_rfl
  ok := by kernel_rfl
  arity := fun _ => Nat.le_of_ble_eq_true (by kernel_rfl)
  pin := fun _ => by kernel_rfl
  chk := by kernel_rfl
  loops := o_slices_DeleteFunc_SSint_Sint
  run := e_slices_DeleteFunc_SSint_Sint
  F := fun _ => rfl
  emb := fun _ => rfl
theorem fd_slices_DeleteFunc_SSint_Sint : FDok prog (117, D_slices_DeleteFunc_SSint_Sint) := fn_ok mixed (env_ok (List.forall_mem_cons.2 ⟨fd_slices_IndexFunc_SSint_Sint, fun _ h => absurd h List.not_mem_nil⟩)) tabOK ok_slices_DeleteFunc_SSint_Sint
theorem e_im_Field_server : ∀ x : D_im_Field_server.T, ((acode E_im_Field_server tt Z_im_Field_server (orcOf O_im_Field_server) C_im_Field_server (entry A_im_Field_server I_im_Field_server x)).map (keepRet tt K_im_Field_server)).ev = ((T_im_Field_server x.1.1.1 x.1.1.2.1 x.1.2.1 x.1.2.2.1).map fun r => some ((((r, ()), ())) : K_im_Field_server.T)).ev := fun _ => by kernel_rfl
noncomputable def B_im_Field_server_0 : Code := ((loopsOf C_im_Field_server).find? fun p => Nat.beq p.1 0).elim .skip (·.2)
theorem l_im_Field_server_0 : (DL_im_Field_server_0).OK E_im_Field_server tt Z_im_Field_server (orcOf O_im_Field_server) B_im_Field_server_0 where
  ok := by kernel_rfl
  oke := by kernel_rfl
  okr := by kernel_rfl
  eta := fun _ => rfl
  step := fun _ _ => by kernel_rfl
theorem o_im_Field_server : LoopsOK E_im_Field_server tt Z_im_Field_server O_im_Field_server C_im_Field_server := by
  have h : loopsOf C_im_Field_server = [(0, B_im_Field_server_0)] := by kernel_rfl
  unfold LoopsOK
  rw [h]
  exact List.forall_mem_cons.2 ⟨fun d h => (by have e : some (DL_im_Field_server_0) = some d := h; cases e; exact l_im_Field_server_0), fun _ h => absurd h List.not_mem_nil⟩
theorem ok_im_Field_server : FnOK prog E_im_Field_server tt 172 D_im_Field_server K_im_Field_server Z_im_Field_server O_im_Field_server f172 C_im_Field_server (fun x => T_im_Field_server x.1.1.1 x.1.1.2.1 x.1.2.1 x.1.2.2.1) (fun r => ((r, ()), ())) where
  at_ := func172
  name := by kernel_rfl
  body := by kernel_rfl
  res := by kernel_rfl
  ok := by kernel_rfl
  arity := fun _ => Nat.le_of_ble_eq_true (by kernel_rfl)
  pin := fun _ => by kernel_rfl
  chk := by kernel_rfl
  loops := o_im_Field_server
  run := e_im_Field_server
  F := fun _ => rfl
  emb := fun _ => rfl
theorem fd_im_Field_server : FDok prog (172, D_im_Field_server) := fn_ok mixed (env_ok (fun _ h => absurd h List.not_mem_nil)) tabOK ok_im_Field_server
theorem e_im_Field_served : ∀ x : D_im_Field_served.T, ((acode E_im_Field_served tt Z_im_Field_served (orcOf O_im_Field_served) C_im_Field_served (entry A_im_Field_served I_im_Field_served x)).map (keepRet tt K_im_Field_served)).ev = ((T_im_Field_served x.1.1.1 x.1.1.2.1 x.1.2.1).map fun r => some (((((), ()), (r, ()))) : K_im_Field_served.T)).ev := fun _ => by kernel_rfl
noncomputable def B_im_Field_served_0 : Code := ((loopsOf C_im_Field_served).find? fun p => Nat.beq p.1 0).elim .skip (·.2)
theorem l_im_Field_served_0 : (DL_im_Field_served_0).OK E_im_Field_served tt Z_im_Field_served (orcOf O_im_Field_served) B_im_Field_served_0 where
  ok := by kernel_rfl
  oke := by kernel_rfl
  okr := by kernel_rfl
  eta := fun _ => rfl
  step := fun _ _ => by kernel_rfl
theorem o_im_Field_served : LoopsOK E_im_Field_served tt Z_im_Field_served O_im_Field_served C_im_Field_served := by
  have h : loopsOf C_im_Field_served = [(0, B_im_Field_served_0)] := by kernel_rfl
  unfold LoopsOK
  rw [h]
  exact List.forall_mem_cons.2 ⟨fun d h => (by have e : some (DL_im_Field_served_0) = some d := h; cases e; exact l_im_Field_served_0), fun _ h => absurd h List.not_mem_nil⟩
theorem ok_im_Field_served : FnOK prog E_im_Field_served tt 127 D_im_Field_served K_im_Field_served Z_im_Field_served O_im_Field_served f127 C_im_Field_served (fun x => T_im_Field_served x.1.1.1 x.1.1.2.1 x.1.2.1) (fun r => (((), ()), (r, ()))) where
  at_ := func127
  name := by kernel_rfl
  body := by kernel_rfl
  res := by kernel_rfl
  ok := by kernel_rfl
  arity := fun _ => Nat.le_of_ble_eq_true (by kernel_rfl)
  pin := fun _ => by kernel_rfl
  chk := by kernel_rfl
  loops := o_im_Field_served
  run := e_im_Field_served
  F := fun _ => rfl
  emb := fun _ => rfl
theorem fd_im_Field_served : FDok prog (127, D_im_Field_served) := fn_ok mixed (env_ok (List.forall_mem_cons.2 ⟨fd_im_Field_server, fun _ h => absurd h List.not_mem_nil⟩)) tabOK ok_im_Field_served
theorem e_im_Field_lengths : ∀ x : D_im_Field_lengths.T, ((acode E_im_Field_lengths tt Z_im_Field_lengths (orcOf O_im_Field_lengths) C_im_Field_lengths (entry A_im_Field_lengths I_im_Field_lengths x)).map (keepRet tt K_im_Field_lengths)).ev = ((T_im_Field_lengths x.1.1.1 x.1.1.2.1 x.1.2.1).map fun r => some (((((), ()), (r, ()))) : K_im_Field_lengths.T)).ev := fun _ => by kernel_rfl
noncomputable def B_im_Field_lengths_0 : Code := ((loopsOf C_im_Field_lengths).find? fun p => Nat.beq p.1 0).elim .skip (·.2)
theorem l_im_Field_lengths_0 : (DL_im_Field_lengths_0).OK E_im_Field_lengths tt Z_im_Field_lengths (orcOf O_im_Field_lengths) B_im_Field_lengths_0 where
  ok := by kernel_rfl
  oke := by kernel_rfl
  okr := by kernel_rfl
  eta := fun _ => rfl
  step := fun _ _ => by kernel_rfl
theorem o_im_Field_lengths : LoopsOK E_im_Field_lengths tt Z_im_Field_lengths O_im_Field_lengths C_im_Field_lengths := by
  have h : loopsOf C_im_Field_lengths = [(0, B_im_Field_lengths_0)] := by kernel_rfl
  unfold LoopsOK
  rw [h]
  exact List.forall_mem_cons.2 ⟨fun d h => (by have e : some (DL_im_Field_lengths_0) = some d := h; cases e; exact l_im_Field_lengths_0), fun _ h => absurd h List.not_mem_nil⟩
theorem ok_im_Field_lengths : FnOK prog E_im_Field_lengths tt 156 D_im_Field_lengths K_im_Field_lengths Z_im_Field_lengths O_im_Field_lengths f156 C_im_Field_lengths (fun x => T_im_Field_lengths x.1.1.1 x.1.1.2.1 x.1.2.1) (fun r => (((), ()), (r, ()))) where
  at_ := func156
  name := by kernel_rfl
  body := by kernel_rfl
  res := by kernel_rfl
  ok := by kernel_rfl
  arity := fun _ => Nat.le_of_ble_eq_true (by kernel_rfl)
  pin := fun _ => by kernel_rfl
  chk := by kernel_rfl
  loops := o_im_Field_lengths
  run := e_im_Field_lengths
  F := fun _ => rfl
  emb := fun _ => rfl
theorem fd_im_Field_lengths : FDok prog (156, D_im_Field_lengths) := fn_ok mixed (env_ok (List.forall_mem_cons.2 ⟨fd_im_Field_served, fun _ h => absurd h List.not_mem_nil⟩)) tabOK ok_im_Field_lengths
theorem e_im_sum : ∀ x : D_im_sum.T, ((acode E_im_sum tt Z_im_sum (orcOf O_im_sum) C_im_sum (entry A_im_sum I_im_sum x)).map (keepRet tt K_im_sum)).ev = ((T_im_sum x.1.1).map fun r => some ((((r, ()), ())) : K_im_sum.T)).ev := fun _ => by kernel_rfl
noncomputable def B_im_sum_0 : Code := ((loopsOf C_im_sum).find? fun p => Nat.beq p.1 0).elim .skip (·.2)
theorem l_im_sum_0 : (DL_im_sum_0).OK E_im_sum tt Z_im_sum (orcOf O_im_sum) B_im_sum_0 where
  ok := by kernel_rfl
  oke := by kernel_rfl
  okr := by kernel_rfl
  eta := fun _ => rfl
  step := fun _ _ => by kernel_rfl
theorem o_im_sum : LoopsOK E_im_sum tt Z_im_sum O_im_sum C_im_sum := by
  have h : loopsOf C_im_sum = [(0, B_im_sum_0)] := by kernel_rfl
  unfold LoopsOK
  rw [h]
  exact List.forall_mem_cons.2 ⟨fun d h => (by have e : some (DL_im_sum_0) = some d := h; cases e; exact l_im_sum_0), fun _ h => absurd h List.not_mem_nil⟩
theorem ok_im_sum : FnOK prog E_im_sum tt 98 D_im_sum K_im_sum Z_im_sum O_im_sum f98 C_im_sum (fun x => T_im_sum x.1.1) (fun r => ((r, ()), ())) where
  at_ := func98
  name := by kernel_rfl
  body := by kernel_rfl
  res := by kernel_rfl
  ok := by kernel_rfl
  arity := fun _ => Nat.le_of_ble_eq_true (by kernel_rfl)
  pin := fun _ => by kernel_rfl
  chk := by kernel_rfl
  loops := o_im_sum
  run := e_im_sum
  F := fun _ => rfl
  emb := fun _ => rfl
theorem fd_im_sum : FDok prog (98, D_im_sum) := fn_ok mixed (env_ok (fun _ h => absurd h List.not_mem_nil)) tabOK ok_im_sum
theorem e_im_Field_service : ∀ x : D_im_Field_service.T, ((acode E_im_Field_service tt Z_im_Field_service (orcOf O_im_Field_service) C_im_Field_service (entry A_im_Field_service I_im_Field_service x)).map (keepRet tt K_im_Field_service)).ev = ((T_im_Field_service x.1.1.1 x.1.1.2.1 x.1.2.1).map fun r => some ((((r, ()), ())) : K_im_Field_service.T)).ev := fun _ => by kernel_rfl
theorem o_im_Field_service : LoopsOK E_im_Field_service tt Z_im_Field_service O_im_Field_service C_im_Field_service := by
  have h : loopsOf C_im_Field_service = [] := by kernel_rfl
  unfold LoopsOK
  rw [h]
  exact fun _ h => absurd h List.not_mem_nil
theorem ok_im_Field_service : FnOK prog E_im_Field_service tt 110 D_im_Field_service K_im_Field_service Z_im_Field_service O_im_Field_service f110 C_im_Field_service (fun x => T_im_Field_service x.1.1.1 x.1.1.2.1 x.1.2.1) (fun r => ((r, ()), ())) where
  at_ := func110
  name := by kernel_rfl
  body := by kernel_rfl
  res := by kernel_rfl
  ok := by kernel_rfl
  arity := fun _ => Nat.le_of_ble_eq_true (by kernel_rfl)
  pin := fun _ => by kernel_rfl
  chk := by kernel_rfl
  loops := o_im_Field_service
  run := e_im_Field_service
  F := fun _ => rfl
  emb := fun _ => rfl
theorem fd_im_Field_service : FDok prog (110, D_im_Field_service) := fn_ok mixed (env_ok (List.forall_mem_cons.2 ⟨fd_im_Field_lengths, List.forall_mem_cons.2 ⟨fd_im_sum, fun _ h => absurd h List.not_mem_nil⟩⟩)) tabOK ok_im_Field_service
theorem e_im_Field_payment : ∀ x : D_im_Field_payment.T, ((acode E_im_Field_payment tt Z_im_Field_payment (orcOf O_im_Field_payment) C_im_Field_payment (entry A_im_Field_payment I_im_Field_payment x)).map (keepRet tt K_im_Field_payment)).ev = ((T_im_Field_payment x.1.1.1 x.1.1.2.1 x.1.2.1).map fun r => some ((((r, ()), ())) : K_im_Field_payment.T)).ev := fun _ => by kernel_rfl
noncomputable def B_im_Field_payment_0 : Code := ((loopsOf C_im_Field_payment).find? fun p => Nat.beq p.1 0).elim .skip (·.2)
theorem l_im_Field_payment_0 : (DL_im_Field_payment_0).OK E_im_Field_payment tt Z_im_Field_payment (orcOf O_im_Field_payment) B_im_Field_payment_0 where
  ok := by kernel_rfl
  oke := by kernel_rfl
  okr := by kernel_rfl
  eta := fun _ => rfl
  step := fun _ _ => by kernel_rfl
theorem o_im_Field_payment : LoopsOK E_im_Field_payment tt Z_im_Field_payment O_im_Field_payment C_im_Field_payment := by
  have h : loopsOf C_im_Field_payment = [(0, B_im_Field_payment_0)] := by kernel_rfl
  unfold LoopsOK
  rw [h]
  exact List.forall_mem_cons.2 ⟨fun d h => (by have e : some (DL_im_Field_payment_0) = some d := h; cases e; exact l_im_Field_payment_0), fun _ h => absurd h List.not_mem_nil⟩
theorem ok_im_Field_payment : FnOK prog E_im_Field_payment tt 125 D_im_Field_payment K_im_Field_payment Z_im_Field_payment O_im_Field_payment f125 C_im_Field_payment (fun x => T_im_Field_payment x.1.1.1 x.1.1.2.1 x.1.2.1) (fun r => ((r, ()), ())) where
  at_ := func125
  name := by kernel_rfl
  body := by kernel_rfl
  res := by kernel_rfl
  ok := by kernel_rfl
  arity := fun _ => Nat.le_of_ble_eq_true (by kernel_rfl)
  pin := fun _ => by kernel_rfl
  chk := by kernel_rfl
  loops := o_im_Field_payment
  run := e_im_Field_payment
  F := fun _ => rfl
  emb := fun _ => rfl
theorem fd_im_Field_payment : FDok prog (125, D_im_Field_payment) := fn_ok mixed (env_ok (fun _ h => absurd h List.not_mem_nil)) tabOK ok_im_Field_payment
theorem e_im_Field_total : ∀ x : D_im_Field_total.T, ((acode E_im_Field_total tt Z_im_Field_total (orcOf O_im_Field_total) C_im_Field_total (entry A_im_Field_total I_im_Field_total x)).map (keepRet tt K_im_Field_total)).ev = ((T_im_Field_total x.1.1.1 x.1.1.2.1 x.1.2.1).map fun r => some ((((r, ()), ())) : K_im_Field_total.T)).ev := fun _ => by kernel_rfl
theorem o_im_Field_total : LoopsOK E_im_Field_total tt Z_im_Field_total O_im_Field_total C_im_Field_total := by
  have h : loopsOf C_im_Field_total = [] := by kernel_rfl
  unfold LoopsOK
  rw [h]
  exact fun _ h => absurd h List.not_mem_nil
theorem ok_im_Field_total : FnOK prog E_im_Field_total tt 130 D_im_Field_total K_im_Field_total Z_im_Field_total O_im_Field_total f130 C_im_Field_total (fun x => T_im_Field_total x.1.1.1 x.1.1.2.1 x.1.2.1) (fun r => ((r, ()), ())) where
  at_ := func130
  name := by kernel_rfl
  body := by kernel_rfl
  res := by kernel_rfl
  ok := by kernel_rfl
  arity := fun _ => Nat.le_of_ble_eq_true (by kernel_rfl)
  pin := fun _ => by kernel_rfl
  chk := by kernel_rfl
  loops := o_im_Field_total
  run := e_im_Field_total
  F := fun _ => rfl
  emb := fun _ => rfl
theorem fd_im_Field_total : FDok prog (130, D_im_Field_total) := fn_ok mixed (env_ok (List.forall_mem_cons.2 ⟨fd_im_Field_payment, List.forall_mem_cons.2 ⟨fd_im_Field_service, fun _ h => absurd h List.not_mem_nil⟩⟩)) tabOK ok_im_Field_total
theorem e_slices_Max_Sint_int : ∀ x : D_slices_Max_Sint_int.T, ((acode E_slices_Max_Sint_int tt Z_slices_Max_Sint_int (orcOf O_slices_Max_Sint_int) C_slices_Max_Sint_int (entry A_slices_Max_Sint_int I_slices_Max_Sint_int x)).map (keepRet tt K_slices_Max_Sint_int)).ev = ((T_slices_Max_Sint_int x.1.1).map fun r => some ((((r, ()), ())) : K_slices_Max_Sint_int.T)).ev := fun _ => by kernel_rfl
noncomputable def B_slices_Max_Sint_int_0 : Code := ((loopsOf C_slices_Max_Sint_int).find? fun p => Nat.beq p.1 0).elim .skip (·.2)
theorem l_slices_Max_Sint_int_0 : (DL_slices_Max_Sint_int_0).OK E_slices_Max_Sint_int tt Z_slices_Max_Sint_int (orcOf O_slices_Max_Sint_int) B_slices_Max_Sint_int_0 where
  ok := by kernel_rfl
  oke := by kernel_rfl
  okr := by kernel_rfl
  eta := fun _ => rfl
  step := fun _ _ => by kernel_rfl
theorem o_slices_Max_Sint_int : LoopsOK E_slices_Max_Sint_int tt Z_slices_Max_Sint_int O_slices_Max_Sint_int C_slices_Max_Sint_int := by
  have h : loopsOf C_slices_Max_Sint_int = [(0, B_slices_Max_Sint_int_0)] := by kernel_rfl
  unfold LoopsOK
  rw [h]
  exact List.forall_mem_cons.2 ⟨fun d h => (by have e : some (DL_slices_Max_Sint_int_0) = some d := h; cases e; exact l_slices_Max_Sint_int_0), fun _ h => absurd h List.not_mem_nil⟩
theorem ok_slices_Max_Sint_int : FnOK prog E_slices_Max_Sint_int tt 146 D_slices_Max_Sint_int K_slices_Max_Sint_int Z_slices_Max_Sint_int O_slices_Max_Sint_int f146 C_slices_Max_Sint_int (fun x => T_slices_Max_Sint_int x.1.1) (fun r => ((r, ()), ())) where
  at_ := func146
  name := by kernel_rfl
  body := by kernel_rfl
  res := by kernel_rfl
  ok := by kernel_rfl
  arity := fun _ => Nat.le_of_ble_eq_true (by kernel_rfl)
  pin := fun _ => by kernel_rfl
  chk := by kernel_rfl
  loops := o_slices_Max_Sint_int
  run := e_slices_Max_Sint_int
  F := fun _ => rfl
  emb := fun _ => rfl
theorem fd_slices_Max_Sint_int : FDok prog (146, D_slices_Max_Sint_int) := fn_ok mixed (env_ok (fun _ h => absurd h List.not_mem_nil)) tabOK ok_slices_Max_Sint_int
theorem e_im_Field_reach : ∀ x : D_im_Field_reach.T, ((acode E_im_Field_reach tt Z_im_Field_reach (orcOf O_im_Field_reach) C_im_Field_reach (entry A_im_Field_reach I_im_Field_reach x)).map (keepRet tt K_im_Field_reach)).ev = ((T_im_Field_reach x.1.1.1 x.1.1.2.1 x.1.2.1).map fun r => some ((((r, ()), ())) : K_im_Field_reach.T)).ev := fun _ => by kernel_rfl
theorem o_im_Field_reach : LoopsOK E_im_Field_reach tt Z_im_Field_reach O_im_Field_reach C_im_Field_reach := by
  have h : loopsOf C_im_Field_reach = [] := by kernel_rfl
  unfold LoopsOK
  rw [h]
  exact fun _ h => absurd h List.not_mem_nil
theorem ok_im_Field_reach : FnOK prog E_im_Field_reach tt 170 D_im_Field_reach K_im_Field_reach Z_im_Field_reach O_im_Field_reach f170 C_im_Field_reach (fun x => T_im_Field_reach x.1.1.1 x.1.1.2.1 x.1.2.1) (fun r => ((r, ()), ())) where
  at_ := func170
  name := by kernel_rfl
  body := by kernel_rfl
  res := by kernel_rfl
  ok := by kernel_rfl
  arity := fun _ => Nat.le_of_ble_eq_true (by kernel_rfl)
  pin := fun _ => by kernel_rfl
  chk := by kernel_rfl
  loops := o_im_Field_reach
  run := e_im_Field_reach
  F := fun _ => rfl
  emb := fun _ => rfl
theorem fd_im_Field_reach : FDok prog (170, D_im_Field_reach) := fn_ok mixed (env_ok (List.forall_mem_cons.2 ⟨fd_im_Field_lengths, List.forall_mem_cons.2 ⟨fd_slices_Max_Sint_int, fun _ h => absurd h List.not_mem_nil⟩⟩)) tabOK ok_im_Field_reach
theorem e_im_Field_value : ∀ x : D_im_Field_value.T, ((acode E_im_Field_value tt Z_im_Field_value (orcOf O_im_Field_value) C_im_Field_value (entry A_im_Field_value I_im_Field_value x)).map (keepRet tt K_im_Field_value)).ev = ((T_im_Field_value x.1.1.1 x.1.1.2.1 x.1.2.1 x.1.2.2.1).map fun r => some ((((r, ()), ())) : K_im_Field_value.T)).ev := fun _ => by kernel_rfl
theorem o_im_Field_value : LoopsOK E_im_Field_value tt Z_im_Field_value O_im_Field_value C_im_Field_value := by
  have h : loopsOf C_im_Field_value = [] := by kernel_rfl
  unfold LoopsOK
  rw [h]
  exact fun _ h => absurd h List.not_mem_nil
theorem ok_im_Field_value : FnOK prog E_im_Field_value tt 120 D_im_Field_value K_im_Field_value Z_im_Field_value O_im_Field_value f120 C_im_Field_value (fun x => T_im_Field_value x.1.1.1 x.1.1.2.1 x.1.2.1 x.1.2.2.1) (fun r => ((r, ()), ())) where
  at_ := func120
  name := by kernel_rfl
  body := by kernel_rfl
  res := by kernel_rfl
  ok := by kernel_rfl
  arity := fun _ => Nat.le_of_ble_eq_true (by kernel_rfl)
  pin := fun _ => by kernel_rfl
  chk := by kernel_rfl
  loops := o_im_Field_value
  run := e_im_Field_value
  F := fun _ => rfl
  emb := fun _ => rfl
theorem fd_im_Field_value : FDok prog (120, D_im_Field_value) := fn_ok mixed (env_ok (List.forall_mem_cons.2 ⟨fd_im_Field_service, List.forall_mem_cons.2 ⟨fd_im_Field_payment, List.forall_mem_cons.2 ⟨fd_im_Field_total, List.forall_mem_cons.2 ⟨fd_im_Field_reach, fun _ h => absurd h List.not_mem_nil⟩⟩⟩⟩)) tabOK ok_im_Field_value
theorem e_im_BestUnder_1 : ∀ x : D_im_BestUnder_1.T, ((acode E_im_BestUnder_1 tt Z_im_BestUnder_1 (orcOf O_im_BestUnder_1) C_im_BestUnder_1 (entry A_im_BestUnder_1 I_im_BestUnder_1 x)).map (keepRet tt K_im_BestUnder_1)).ev = ((T_im_BestUnder_1 x.1.1 x.1.2.1.1 x.1.2.1.2.1 x.1.2.2.1.1 x.1.2.2.2.1.1).map fun r => some ((((r, ()), ())) : K_im_BestUnder_1.T)).ev := fun _ => by kernel_rfl
theorem o_im_BestUnder_1 : LoopsOK E_im_BestUnder_1 tt Z_im_BestUnder_1 O_im_BestUnder_1 C_im_BestUnder_1 := by
  have h : loopsOf C_im_BestUnder_1 = [] := by kernel_rfl
  unfold LoopsOK
  rw [h]
  exact fun _ h => absurd h List.not_mem_nil
theorem ok_im_BestUnder_1 : FnOK prog E_im_BestUnder_1 tt 119 D_im_BestUnder_1 K_im_BestUnder_1 Z_im_BestUnder_1 O_im_BestUnder_1 f119 C_im_BestUnder_1 (fun x => T_im_BestUnder_1 x.1.1 x.1.2.1.1 x.1.2.1.2.1 x.1.2.2.1.1 x.1.2.2.2.1.1) (fun r => ((r, ()), ())) where
  at_ := func119
  name := by kernel_rfl
  body := by kernel_rfl
  res := by kernel_rfl
  ok := by kernel_rfl
  arity := fun _ => Nat.le_of_ble_eq_true (by kernel_rfl)
  pin := fun _ => by kernel_rfl
  chk := by kernel_rfl
  loops := o_im_BestUnder_1
  run := e_im_BestUnder_1
  F := fun _ => rfl
  emb := fun _ => rfl
theorem fd_im_BestUnder_1 : FDok prog (119, D_im_BestUnder_1) := fn_ok mixed (env_ok (List.forall_mem_cons.2 ⟨fd_im_Field_value, fun _ h => absurd h List.not_mem_nil⟩)) tabOK ok_im_BestUnder_1
theorem e_im_least : ∀ x : D_im_least.T, ((acode E_im_least tt Z_im_least (orcOf O_im_least) C_im_least (entry A_im_least I_im_least x)).map (keepRet tt K_im_least)).ev = ((T_im_least x.1.2.1 x.2.1).map fun r => some (((((), ()), (r, ()))) : K_im_least.T)).ev := fun _ => by kernel_rfl
noncomputable def B_im_least_0 : Code := ((loopsOf C_im_least).find? fun p => Nat.beq p.1 0).elim .skip (·.2)
theorem l_im_least_0 : (DL_im_least_0).OK E_im_least tt Z_im_least (orcOf O_im_least) B_im_least_0 where
  ok := by kernel_rfl
  oke := by kernel_rfl
  okr := by kernel_rfl
  eta := fun _ => rfl
  step := fun _ _ => by kernel_rfl
theorem o_im_least : LoopsOK E_im_least tt Z_im_least O_im_least C_im_least := by
  have h : loopsOf C_im_least = [(0, B_im_least_0)] := by kernel_rfl
  unfold LoopsOK
  rw [h]
  exact List.forall_mem_cons.2 ⟨fun d h => (by have e : some (DL_im_least_0) = some d := h; cases e; exact l_im_least_0), fun _ h => absurd h List.not_mem_nil⟩
theorem ok_im_least : FnOK prog E_im_least tt 83 D_im_least K_im_least Z_im_least O_im_least f83 C_im_least (fun x => T_im_least x.1.2.1 x.2.1) (fun r => (((), ()), (r, ()))) where
  at_ := func83
  name := by kernel_rfl
  body := by kernel_rfl
  res := by kernel_rfl
  ok := by kernel_rfl
  arity := fun _ => Nat.le_of_ble_eq_true (by kernel_rfl)
  pin := fun _ => by kernel_rfl
  chk := by kernel_rfl
  loops := o_im_least
  run := e_im_least
  F := fun _ => rfl
  emb := fun _ => rfl
theorem fd_im_least : FDok prog (83, D_im_least) := fn_ok mixed (env_ok (fun _ h => absurd h List.not_mem_nil)) tabOK ok_im_least
theorem e_im_BestUnder_2 : ∀ x : D_im_BestUnder_2.T, ((acode E_im_BestUnder_2 tt Z_im_BestUnder_2 (orcOf O_im_BestUnder_2) C_im_BestUnder_2 (entry A_im_BestUnder_2 I_im_BestUnder_2 x)).map (keepRet tt K_im_BestUnder_2)).ev = ((T_im_BestUnder_2 x.1.1 x.1.2.1.1 x.1.2.1.2.1 x.1.2.2.1.1).map fun r => some ((((r, ()), ())) : K_im_BestUnder_2.T)).ev := fun _ => by kernel_rfl
theorem o_im_BestUnder_2 : LoopsOK E_im_BestUnder_2 tt Z_im_BestUnder_2 O_im_BestUnder_2 C_im_BestUnder_2 := by
  have h : loopsOf C_im_BestUnder_2 = [] := by kernel_rfl
  unfold LoopsOK
  rw [h]
  exact fun _ h => absurd h List.not_mem_nil
theorem ok_im_BestUnder_2 : FnOK prog E_im_BestUnder_2 tt 121 D_im_BestUnder_2 K_im_BestUnder_2 Z_im_BestUnder_2 O_im_BestUnder_2 f121 C_im_BestUnder_2 (fun x => T_im_BestUnder_2 x.1.1 x.1.2.1.1 x.1.2.1.2.1 x.1.2.2.1.1) (fun r => ((r, ()), ())) where
  at_ := func121
  name := by kernel_rfl
  body := by kernel_rfl
  res := by kernel_rfl
  ok := by kernel_rfl
  arity := fun _ => Nat.le_of_ble_eq_true (by kernel_rfl)
  pin := fun _ => by kernel_rfl
  chk := by kernel_rfl
  loops := o_im_BestUnder_2
  run := e_im_BestUnder_2
  F := fun _ => rfl
  emb := fun _ => rfl
theorem fd_im_BestUnder_2 : FDok prog (121, D_im_BestUnder_2) := fn_ok mixed (env_ok (List.forall_mem_cons.2 ⟨fd_im_Field_value, fun _ h => absurd h List.not_mem_nil⟩)) tabOK ok_im_BestUnder_2
theorem e_im_BestUnder : ∀ x : D_im_BestUnder.T, ((acode E_im_BestUnder tt Z_im_BestUnder (orcOf O_im_BestUnder) C_im_BestUnder (entry A_im_BestUnder I_im_BestUnder x)).map (keepRet tt K_im_BestUnder)).ev = ((T_im_BestUnder x.1.1.1 x.1.1.2.1 x.1.2.1 x.1.2.2.1 x.1.2.2.2.1).map fun r => some (((((), (r.1, ())), (r.2, ()))) : K_im_BestUnder.T)).ev := fun _ => by kernel_rfl
theorem o_im_BestUnder : LoopsOK E_im_BestUnder tt Z_im_BestUnder O_im_BestUnder C_im_BestUnder := by
  have h : loopsOf C_im_BestUnder = [] := by kernel_rfl
  unfold LoopsOK
  rw [h]
  exact fun _ h => absurd h List.not_mem_nil
theorem ok_im_BestUnder : FnOK prog E_im_BestUnder tt 45 D_im_BestUnder K_im_BestUnder Z_im_BestUnder O_im_BestUnder f45 C_im_BestUnder (fun x => T_im_BestUnder x.1.1.1 x.1.1.2.1 x.1.2.1 x.1.2.2.1 x.1.2.2.2.1) (fun r => (((), (r.1, ())), (r.2, ()))) where
  at_ := func45
  name := by kernel_rfl
  body := by kernel_rfl
  res := by kernel_rfl
  ok := by kernel_rfl
  arity := fun _ => Nat.le_of_ble_eq_true (by kernel_rfl)
  pin := fun _ => by kernel_rfl
  chk := by kernel_rfl
  loops := o_im_BestUnder
  run := e_im_BestUnder
  F := fun _ => rfl
  emb := fun _ => rfl
theorem fd_im_BestUnder : FDok prog (45, D_im_BestUnder) := fn_ok mixed (env_ok (List.forall_mem_cons.2 ⟨fd_im_isFront, List.forall_mem_cons.2 ⟨fd_im_sets, List.forall_mem_cons.2 ⟨fd_slices_DeleteFunc_SSint_Sint, List.forall_mem_cons.2 ⟨fd_im_least, List.forall_mem_cons.2 ⟨fd_im_least, List.forall_mem_cons.2 ⟨fd_im_BestUnder_2, List.forall_mem_cons.2 ⟨fd_slices_DeleteFunc_SSint_Sint, List.forall_mem_cons.2 ⟨fd_im_BestUnder_1, fun _ h => absurd h List.not_mem_nil⟩⟩⟩⟩⟩⟩⟩⟩)) tabOK ok_im_BestUnder
theorem e_lw_eqIntS : ∀ x : D_lw_eqIntS.T, ((acode E_lw_eqIntS tt Z_lw_eqIntS (orcOf O_lw_eqIntS) C_lw_eqIntS (entry A_lw_eqIntS I_lw_eqIntS x)).map (keepRet tt K_lw_eqIntS)).ev = ((T_lw_eqIntS x.1.1 x.1.2.1).map fun r => some ((((r, ()), ())) : K_lw_eqIntS.T)).ev := fun _ => by kernel_rfl
noncomputable def B_lw_eqIntS_0 : Code := ((loopsOf C_lw_eqIntS).find? fun p => Nat.beq p.1 0).elim .skip (·.2)
theorem l_lw_eqIntS_0 : (DL_lw_eqIntS_0).OK E_lw_eqIntS tt Z_lw_eqIntS (orcOf O_lw_eqIntS) B_lw_eqIntS_0 where
  ok := by kernel_rfl
  oke := by kernel_rfl
  okr := by kernel_rfl
  eta := fun _ => rfl
  step := fun _ _ => by kernel_rfl
theorem o_lw_eqIntS : LoopsOK E_lw_eqIntS tt Z_lw_eqIntS O_lw_eqIntS C_lw_eqIntS := by
  have h : loopsOf C_lw_eqIntS = [(0, B_lw_eqIntS_0)] := by kernel_rfl
  unfold LoopsOK
  rw [h]
  exact List.forall_mem_cons.2 ⟨fun d h => (by have e : some (DL_lw_eqIntS_0) = some d := h; cases e; exact l_lw_eqIntS_0), fun _ h => absurd h List.not_mem_nil⟩
theorem ok_lw_eqIntS : FnOK prog E_lw_eqIntS tt 43 D_lw_eqIntS K_lw_eqIntS Z_lw_eqIntS O_lw_eqIntS f43 C_lw_eqIntS (fun x => T_lw_eqIntS x.1.1 x.1.2.1) (fun r => ((r, ()), ())) where
  at_ := func43
  name := by kernel_rfl
  body := by kernel_rfl
  res := by kernel_rfl
  ok := by kernel_rfl
  arity := fun _ => Nat.le_of_ble_eq_true (by kernel_rfl)
  pin := fun _ => by kernel_rfl
  chk := by kernel_rfl
  loops := o_lw_eqIntS
  run := e_lw_eqIntS
  F := fun _ => rfl
  emb := fun _ => rfl
theorem fd_lw_eqIntS : FDok prog (43, D_lw_eqIntS) := fn_ok mixed (env_ok (fun _ h => absurd h List.not_mem_nil)) tabOK ok_lw_eqIntS
theorem e_lw_eqIntSS : ∀ x : D_lw_eqIntSS.T, ((acode E_lw_eqIntSS tt Z_lw_eqIntSS (orcOf O_lw_eqIntSS) C_lw_eqIntSS (entry A_lw_eqIntSS I_lw_eqIntSS x)).map (keepRet tt K_lw_eqIntSS)).ev = ((T_lw_eqIntSS x.1.1 x.1.2.1).map fun r => some ((((r, ()), ())) : K_lw_eqIntSS.T)).ev := fun _ => by kernel_rfl
noncomputable def B_lw_eqIntSS_0 : Code := ((loopsOf C_lw_eqIntSS).find? fun p => Nat.beq p.1 0).elim .skip (·.2)
theorem l_lw_eqIntSS_0 : (DL_lw_eqIntSS_0).OK E_lw_eqIntSS tt Z_lw_eqIntSS (orcOf O_lw_eqIntSS) B_lw_eqIntSS_0 where
  ok := by kernel_rfl
  oke := by kernel_rfl
  okr := by kernel_rfl
  eta := fun _ => rfl
  step := fun _ _ => by kernel_rfl
theorem o_lw_eqIntSS : LoopsOK E_lw_eqIntSS tt Z_lw_eqIntSS O_lw_eqIntSS C_lw_eqIntSS := by
  have h : loopsOf C_lw_eqIntSS = [(0, B_lw_eqIntSS_0)] := by kernel_rfl
  unfold LoopsOK
  rw [h]
  exact List.forall_mem_cons.2 ⟨fun d h => (by have e : some (DL_lw_eqIntSS_0) = some d := h; cases e; exact l_lw_eqIntSS_0), fun _ h => absurd h List.not_mem_nil⟩
theorem ok_lw_eqIntSS : FnOK prog E_lw_eqIntSS tt 22 D_lw_eqIntSS K_lw_eqIntSS Z_lw_eqIntSS O_lw_eqIntSS f22 C_lw_eqIntSS (fun x => T_lw_eqIntSS x.1.1 x.1.2.1) (fun r => ((r, ()), ())) where
  at_ := func22
  name := by kernel_rfl
  body := by kernel_rfl
  res := by kernel_rfl
  ok := by kernel_rfl
  arity := fun _ => Nat.le_of_ble_eq_true (by kernel_rfl)
  pin := fun _ => by kernel_rfl
  chk := by kernel_rfl
  loops := o_lw_eqIntSS
  run := e_lw_eqIntSS
  F := fun _ => rfl
  emb := fun _ => rfl
theorem fd_lw_eqIntSS : FDok prog (22, D_lw_eqIntSS) := fn_ok mixed (env_ok (List.forall_mem_cons.2 ⟨fd_lw_eqIntS, fun _ h => absurd h List.not_mem_nil⟩)) tabOK ok_lw_eqIntSS
theorem e_lw_eqField : ∀ x : D_lw_eqField.T, ((acode E_lw_eqField tt Z_lw_eqField (orcOf O_lw_eqField) C_lw_eqField (entry A_lw_eqField I_lw_eqField x)).map (keepRet tt K_lw_eqField)).ev = ((T_lw_eqField x.1.1.1 x.1.1.2.1 x.1.2.1.1 x.1.2.1.2.1).map fun r => some ((((r, ()), ())) : K_lw_eqField.T)).ev := fun _ => by kernel_rfl
theorem o_lw_eqField : LoopsOK E_lw_eqField tt Z_lw_eqField O_lw_eqField C_lw_eqField := by
  have h : loopsOf C_lw_eqField = [] := by kernel_rfl
  unfold LoopsOK
  rw [h]
  exact fun _ h => absurd h List.not_mem_nil
theorem ok_lw_eqField : FnOK prog E_lw_eqField tt 42 D_lw_eqField K_lw_eqField Z_lw_eqField O_lw_eqField f42 C_lw_eqField (fun x => T_lw_eqField x.1.1.1 x.1.1.2.1 x.1.2.1.1 x.1.2.1.2.1) (fun r => ((r, ()), ())) where
  at_ := func42
  name := by kernel_rfl
  body := by kernel_rfl
  res := by kernel_rfl
  ok := by kernel_rfl
  arity := fun _ => Nat.le_of_ble_eq_true (by kernel_rfl)
  pin := fun _ => by kernel_rfl
  chk := by kernel_rfl
  loops := o_lw_eqField
  run := e_lw_eqField
  F := fun _ => rfl
  emb := fun _ => rfl
theorem fd_lw_eqField : FDok prog (42, D_lw_eqField) := fn_ok mixed (env_ok (List.forall_mem_cons.2 ⟨fd_lw_eqIntS, List.forall_mem_cons.2 ⟨fd_lw_eqIntSS, fun _ h => absurd h List.not_mem_nil⟩⟩)) tabOK ok_lw_eqField
theorem e_lw_markIntS : ∀ x : D_lw_markIntS.T, ((acode E_lw_markIntS tt Z_lw_markIntS (orcOf O_lw_markIntS) C_lw_markIntS (entry A_lw_markIntS I_lw_markIntS x)).map (keepRet tt K_lw_markIntS)).ev = ((T_lw_markIntS x.1.2.1 x.2.1).map fun r => some ((((r.1, ()), (r.2, ()))) : K_lw_markIntS.T)).ev := fun _ => by kernel_rfl
noncomputable def B_lw_markIntS_0 : Code := ((loopsOf C_lw_markIntS).find? fun p => Nat.beq p.1 0).elim .skip (·.2)
theorem l_lw_markIntS_0 : (DL_lw_markIntS_0).OK E_lw_markIntS tt Z_lw_markIntS (orcOf O_lw_markIntS) B_lw_markIntS_0 where
  ok := by kernel_rfl
  oke := by kernel_rfl
  okr := by kernel_rfl
  eta := fun _ => rfl
  step := fun _ _ => by kernel_rfl
theorem o_lw_markIntS : LoopsOK E_lw_markIntS tt Z_lw_markIntS O_lw_markIntS C_lw_markIntS := by
  have h : loopsOf C_lw_markIntS = [(0, B_lw_markIntS_0)] := by kernel_rfl
  unfold LoopsOK
  rw [h]
  exact List.forall_mem_cons.2 ⟨fun d h => (by have e : some (DL_lw_markIntS_0) = some d := h; cases e; exact l_lw_markIntS_0), fun _ h => absurd h List.not_mem_nil⟩
theorem ok_lw_markIntS : FnOK prog E_lw_markIntS tt 47 D_lw_markIntS K_lw_markIntS Z_lw_markIntS O_lw_markIntS f47 C_lw_markIntS (fun x => T_lw_markIntS x.1.2.1 x.2.1) (fun r => ((r.1, ()), (r.2, ()))) where
  at_ := func47
  name := by kernel_rfl
  body := by kernel_rfl
  res := by kernel_rfl
  ok := by kernel_rfl
  arity := fun _ => Nat.le_of_ble_eq_true (by kernel_rfl)
  pin := fun _ => by kernel_rfl
  chk := by kernel_rfl
  loops := o_lw_markIntS
  run := e_lw_markIntS
  F := fun _ => rfl
  emb := fun _ => rfl
theorem fd_lw_markIntS : FDok prog (47, D_lw_markIntS) := fn_ok mixed (env_ok (fun _ h => absurd h List.not_mem_nil)) tabOK ok_lw_markIntS
theorem e_lw_markIntSS : ∀ x : D_lw_markIntSS.T, ((acode E_lw_markIntSS tt Z_lw_markIntSS (orcOf O_lw_markIntSS) C_lw_markIntSS (entry A_lw_markIntSS I_lw_markIntSS x)).map (keepRet tt K_lw_markIntSS)).ev = ((T_lw_markIntSS x.1.2.1 x.2.1).map fun r => some ((((r.1, ()), (r.2, ()))) : K_lw_markIntSS.T)).ev := fun _ => by kernel_rfl
noncomputable def B_lw_markIntSS_0 : Code := ((loopsOf C_lw_markIntSS).find? fun p => Nat.beq p.1 0).elim .skip (·.2)
theorem l_lw_markIntSS_0 : (DL_lw_markIntSS_0).OK E_lw_markIntSS tt Z_lw_markIntSS (orcOf O_lw_markIntSS) B_lw_markIntSS_0 where
  ok := by kernel_rfl
  oke := by kernel_rfl
  okr := by kernel_rfl
  eta := fun _ => rfl
  step := fun _ _ => by kernel_rfl
theorem o_lw_markIntSS : LoopsOK E_lw_markIntSS tt Z_lw_markIntSS O_lw_markIntSS C_lw_markIntSS := by
  have h : loopsOf C_lw_markIntSS = [(0, B_lw_markIntSS_0)] := by kernel_rfl
  unfold LoopsOK
  rw [h]
  exact List.forall_mem_cons.2 ⟨fun d h => (by have e : some (DL_lw_markIntSS_0) = some d := h; cases e; exact l_lw_markIntSS_0), fun _ h => absurd h List.not_mem_nil⟩
theorem ok_lw_markIntSS : FnOK prog E_lw_markIntSS tt 28 D_lw_markIntSS K_lw_markIntSS Z_lw_markIntSS O_lw_markIntSS f28 C_lw_markIntSS (fun x => T_lw_markIntSS x.1.2.1 x.2.1) (fun r => ((r.1, ()), (r.2, ()))) where
  at_ := func28
  name := by kernel_rfl
  body := by kernel_rfl
  res := by kernel_rfl
  ok := by kernel_rfl
  arity := fun _ => Nat.le_of_ble_eq_true (by kernel_rfl)
  pin := fun _ => by kernel_rfl
  chk := by kernel_rfl
  loops := o_lw_markIntSS
  run := e_lw_markIntSS
  F := fun _ => rfl
  emb := fun _ => rfl
theorem fd_lw_markIntSS : FDok prog (28, D_lw_markIntSS) := fn_ok mixed (env_ok (List.forall_mem_cons.2 ⟨fd_lw_markIntS, fun _ h => absurd h List.not_mem_nil⟩)) tabOK ok_lw_markIntSS
theorem e_lw_markField : ∀ x : D_lw_markField.T, ((acode E_lw_markField tt Z_lw_markField (orcOf O_lw_markField) C_lw_markField (entry A_lw_markField I_lw_markField x)).map (keepRet tt K_lw_markField)).ev = ((T_lw_markField x.1.2.1 x.2.1 x.2.2.1).map fun r => some ((((r.1, ()), (r.2.1, (r.2.2, ())))) : K_lw_markField.T)).ev := fun _ => by kernel_rfl
theorem o_lw_markField : LoopsOK E_lw_markField tt Z_lw_markField O_lw_markField C_lw_markField := by
  have h : loopsOf C_lw_markField = [] := by kernel_rfl
  unfold LoopsOK
  rw [h]
  exact fun _ h => absurd h List.not_mem_nil
theorem ok_lw_markField : FnOK prog E_lw_markField tt 46 D_lw_markField K_lw_markField Z_lw_markField O_lw_markField f46 C_lw_markField (fun x => T_lw_markField x.1.2.1 x.2.1 x.2.2.1) (fun r => ((r.1, ()), (r.2.1, (r.2.2, ())))) where
  at_ := func46
  name := by kernel_rfl
  body := by kernel_rfl
  res := by kernel_rfl
  ok := by kernel_rfl
  arity := fun _ => Nat.le_of_ble_eq_true (by kernel_rfl)
  pin := fun _ => by kernel_rfl
  chk := by kernel_rfl
  loops := o_lw_markField
  run := e_lw_markField
  F := fun _ => rfl
  emb := fun _ => rfl
theorem fd_lw_markField : FDok prog (46, D_lw_markField) := fn_ok mixed (env_ok (List.forall_mem_cons.2 ⟨fd_lw_markIntS, List.forall_mem_cons.2 ⟨fd_lw_markIntSS, fun _ h => absurd h List.not_mem_nil⟩⟩)) tabOK ok_lw_markField
theorem e_lw_heldIntS : ∀ x : D_lw_heldIntS.T, ((acode E_lw_heldIntS tt Z_lw_heldIntS (orcOf O_lw_heldIntS) C_lw_heldIntS (entry A_lw_heldIntS I_lw_heldIntS x)).map (keepRet tt K_lw_heldIntS)).ev = ((T_lw_heldIntS x.1.1 x.1.2.1).map fun r => some ((((r, ()), ())) : K_lw_heldIntS.T)).ev := fun _ => by kernel_rfl
noncomputable def B_lw_heldIntS_0 : Code := ((loopsOf C_lw_heldIntS).find? fun p => Nat.beq p.1 0).elim .skip (·.2)
theorem l_lw_heldIntS_0 : (DL_lw_heldIntS_0).OK E_lw_heldIntS tt Z_lw_heldIntS (orcOf O_lw_heldIntS) B_lw_heldIntS_0 where
  ok := by kernel_rfl
  oke := by kernel_rfl
  okr := by kernel_rfl
  eta := fun _ => rfl
  step := fun _ _ => by kernel_rfl
theorem o_lw_heldIntS : LoopsOK E_lw_heldIntS tt Z_lw_heldIntS O_lw_heldIntS C_lw_heldIntS := by
  have h : loopsOf C_lw_heldIntS = [(0, B_lw_heldIntS_0)] := by kernel_rfl
  unfold LoopsOK
  rw [h]
  exact List.forall_mem_cons.2 ⟨fun d h => (by have e : some (DL_lw_heldIntS_0) = some d := h; cases e; exact l_lw_heldIntS_0), fun _ h => absurd h List.not_mem_nil⟩
theorem ok_lw_heldIntS : FnOK prog E_lw_heldIntS tt 48 D_lw_heldIntS K_lw_heldIntS Z_lw_heldIntS O_lw_heldIntS f48 C_lw_heldIntS (fun x => T_lw_heldIntS x.1.1 x.1.2.1) (fun r => ((r, ()), ())) where
  at_ := func48
  name := by kernel_rfl
  body := by kernel_rfl
  res := by kernel_rfl
  ok := by kernel_rfl
  arity := fun _ => Nat.le_of_ble_eq_true (by kernel_rfl)
  pin := fun _ => by kernel_rfl
  chk := by kernel_rfl
  loops := o_lw_heldIntS
  run := e_lw_heldIntS
  F := fun _ => rfl
  emb := fun _ => rfl
theorem fd_lw_heldIntS : FDok prog (48, D_lw_heldIntS) := fn_ok mixed (env_ok (fun _ h => absurd h List.not_mem_nil)) tabOK ok_lw_heldIntS
theorem e_lw_FnExactBestUnder : ∀ x : D_lw_FnExactBestUnder.T, ((acode E_lw_FnExactBestUnder tt Z_lw_FnExactBestUnder (orcOf O_lw_FnExactBestUnder) C_lw_FnExactBestUnder (entry A_lw_FnExactBestUnder I_lw_FnExactBestUnder x)).map (keepRet tt K_lw_FnExactBestUnder)).ev = ((T_lw_FnExactBestUnder x.1.1.1 x.1.1.2.1 x.1.2.1 x.1.2.2.1 x.1.2.2.2.1).map fun r => some ((((r, ()), ())) : K_lw_FnExactBestUnder.T)).ev := fun _ => by kernel_rfl
theorem o_lw_FnExactBestUnder : LoopsOK E_lw_FnExactBestUnder tt Z_lw_FnExactBestUnder O_lw_FnExactBestUnder C_lw_FnExactBestUnder := by
  have h : loopsOf C_lw_FnExactBestUnder = [] := by kernel_rfl
  unfold LoopsOK
  rw [h]
  exact fun _ h => absurd h List.not_mem_nil
theorem ok_lw_FnExactBestUnder : FnOK prog E_lw_FnExactBestUnder tt 11 D_lw_FnExactBestUnder K_lw_FnExactBestUnder Z_lw_FnExactBestUnder O_lw_FnExactBestUnder f11 C_lw_FnExactBestUnder (fun x => T_lw_FnExactBestUnder x.1.1.1 x.1.1.2.1 x.1.2.1 x.1.2.2.1 x.1.2.2.2.1) (fun r => ((r, ()), ())) where
  at_ := func11
  name := by kernel_rfl
  body := by kernel_rfl
  res := by kernel_rfl
  ok := by kernel_rfl
  arity := fun _ => Nat.le_of_ble_eq_true (by kernel_rfl)
  pin := fun _ => by kernel_rfl
  chk := by kernel_rfl
  loops := o_lw_FnExactBestUnder
  run := e_lw_FnExactBestUnder
  F := fun _ => rfl
  emb := fun _ => rfl
theorem fd_lw_FnExactBestUnder : FDok prog (11, D_lw_FnExactBestUnder) := fn_ok mixed (env_ok (List.forall_mem_cons.2 ⟨fd_lw_szField, List.forall_mem_cons.2 ⟨fd_lw_toField, List.forall_mem_cons.2 ⟨fd_sp_BestUnder, List.forall_mem_cons.2 ⟨fd_im_BestUnder, List.forall_mem_cons.2 ⟨fd_lw_eqIntS, List.forall_mem_cons.2 ⟨fd_lw_eqField, List.forall_mem_cons.2 ⟨fd_lw_markField, List.forall_mem_cons.2 ⟨fd_lw_markIntS, List.forall_mem_cons.2 ⟨fd_lw_heldIntS, fun _ h => absurd h List.not_mem_nil⟩⟩⟩⟩⟩⟩⟩⟩⟩)) tabOK ok_lw_FnExactBestUnder
end Go.Proofs.Ytlmbhkmaflhagaa
