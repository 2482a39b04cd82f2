import Derived.Test.YthkafleokepjeaaC1
namespace Go.Proofs.Ythkafleokepjeaa
open Go.Proofs.Try

theorem mixed : prog.follows .mixedOrders = true := by kernel_rfl
theorem tabOK : TabOK prog tt := tab_ok (by kernel_rfl)

theorem e_lw_szIntS : ∀ x : D_lw_szIntS.T, ((acode E_lw_szIntS tt Z_lw_szIntS (orcOf O_lw_szIntS) C_lw_szIntS (entry A_lw_szIntS I_lw_szIntS x)).map (keepRet tt K_lw_szIntS)).ev = ((T_lw_szIntS x.1.1 x.1.2.1).map fun r => some ((((r, ()), ())) : K_lw_szIntS.T)).ev := fun _ => by kernel_rfl

theorem o_lw_szIntS : LoopsOK E_lw_szIntS tt Z_lw_szIntS O_lw_szIntS C_lw_szIntS := by
  have h : loopsOf C_lw_szIntS = [] := by kernel_rfl
  unfold LoopsOK
  rw [h]
  exact fun _ h => absurd h List.not_mem_nil

theorem ok_lw_szIntS : FnOK prog E_lw_szIntS tt 69 D_lw_szIntS K_lw_szIntS Z_lw_szIntS O_lw_szIntS f69 C_lw_szIntS (fun x => T_lw_szIntS x.1.1 x.1.2.1) (fun r => ((r, ()), ())) where
  at_ := func69
  name := by kernel_rfl
  body := by kernel_rfl
  res := by kernel_rfl
  ok := by kernel_rfl
  arity := fun _ => Nat.le_of_ble_eq_true (by kernel_rfl)
  pin := fun _ => by kernel_rfl
  chk := by kernel_rfl
  loops := o_lw_szIntS
  run := e_lw_szIntS
  F := fun _ => rfl
  emb := fun _ => rfl

theorem fd_lw_szIntS : FDok prog (69, D_lw_szIntS) := fn_ok mixed (env_ok (fun _ h => absurd h List.not_mem_nil)) tabOK ok_lw_szIntS

theorem e_lw_szIntSS : ∀ x : D_lw_szIntSS.T, ((acode E_lw_szIntSS tt Z_lw_szIntSS (orcOf O_lw_szIntSS) C_lw_szIntSS (entry A_lw_szIntSS I_lw_szIntSS x)).map (keepRet tt K_lw_szIntSS)).ev = ((T_lw_szIntSS x.1.1 x.1.2.1).map fun r => some ((((r, ()), ())) : K_lw_szIntSS.T)).ev := fun _ => by kernel_rfl

noncomputable def B_lw_szIntSS_0 : Code := ((loopsOf C_lw_szIntSS).find? fun p => Nat.beq p.1 0).elim .skip (·.2)
theorem l_lw_szIntSS_0 : (DL_lw_szIntSS_0).OK E_lw_szIntSS tt Z_lw_szIntSS (orcOf O_lw_szIntSS) B_lw_szIntSS_0 where
  ok := by kernel_rfl
  oke := by kernel_rfl
  okr := by kernel_rfl
  eta := fun _ => rfl
  step := fun _ _ => by kernel_rfl

theorem o_lw_szIntSS : LoopsOK E_lw_szIntSS tt Z_lw_szIntSS O_lw_szIntSS C_lw_szIntSS := by
  have h : loopsOf C_lw_szIntSS = [(0, B_lw_szIntSS_0)] := by kernel_rfl
  unfold LoopsOK
  rw [h]
  exact List.forall_mem_cons.2 ⟨fun d h => (by have e : some (DL_lw_szIntSS_0) = some d := h; cases e; exact l_lw_szIntSS_0), fun _ h => absurd h List.not_mem_nil⟩

theorem ok_lw_szIntSS : FnOK prog E_lw_szIntSS tt 15 D_lw_szIntSS K_lw_szIntSS Z_lw_szIntSS O_lw_szIntSS f15 C_lw_szIntSS (fun x => T_lw_szIntSS x.1.1 x.1.2.1) (fun r => ((r, ()), ())) where
  at_ := func15
  name := by kernel_rfl
  body := by kernel_rfl
  res := by kernel_rfl
  ok := by kernel_rfl
  arity := fun _ => Nat.le_of_ble_eq_true (by kernel_rfl)
  pin := fun _ => by kernel_rfl
  chk := by kernel_rfl
  loops := o_lw_szIntSS
  run := e_lw_szIntSS
  F := fun _ => rfl
  emb := fun _ => rfl

theorem fd_lw_szIntSS : FDok prog (15, D_lw_szIntSS) := fn_ok mixed (env_ok (List.forall_mem_cons.2 ⟨fd_lw_szIntS, fun _ h => absurd h List.not_mem_nil⟩)) tabOK ok_lw_szIntSS

theorem e_lw_szField : ∀ x : D_lw_szField.T, ((acode E_lw_szField tt Z_lw_szField (orcOf O_lw_szField) C_lw_szField (entry A_lw_szField I_lw_szField x)).map (keepRet tt K_lw_szField)).ev = ((T_lw_szField x.1.1.1 x.1.1.2.1 x.1.2.1).map fun r => some ((((r, ()), ())) : K_lw_szField.T)).ev := fun _ => by kernel_rfl

theorem o_lw_szField : LoopsOK E_lw_szField tt Z_lw_szField O_lw_szField C_lw_szField := by
  have h : loopsOf C_lw_szField = [] := by kernel_rfl
  unfold LoopsOK
  rw [h]
  exact fun _ h => absurd h List.not_mem_nil

theorem ok_lw_szField : FnOK prog E_lw_szField tt 22 D_lw_szField K_lw_szField Z_lw_szField O_lw_szField f22 C_lw_szField (fun x => T_lw_szField x.1.1.1 x.1.1.2.1 x.1.2.1) (fun r => ((r, ()), ())) where
  at_ := func22
  name := by kernel_rfl
  body := by kernel_rfl
  res := by kernel_rfl
  ok := by kernel_rfl
  arity := fun _ => Nat.le_of_ble_eq_true (by kernel_rfl)
  pin := fun _ => by kernel_rfl
  chk := by kernel_rfl
  loops := o_lw_szField
  run := e_lw_szField
  F := fun _ => rfl
  emb := fun _ => rfl

theorem fd_lw_szField : FDok prog (22, D_lw_szField) := fn_ok mixed (env_ok (List.forall_mem_cons.2 ⟨fd_lw_szIntS, List.forall_mem_cons.2 ⟨fd_lw_szIntSS, fun _ h => absurd h List.not_mem_nil⟩⟩)) tabOK ok_lw_szField

theorem e_lw_szAtlas : ∀ x : D_lw_szAtlas.T, ((acode E_lw_szAtlas tt Z_lw_szAtlas (orcOf O_lw_szAtlas) C_lw_szAtlas (entry A_lw_szAtlas I_lw_szAtlas x)).map (keepRet tt K_lw_szAtlas)).ev = ((T_lw_szAtlas x.1.1.1 x.1.1.2.1 x.1.1.2.2.1 x.1.1.2.2.2.1 x.1.2.1).map fun r => some ((((r, ()), ())) : K_lw_szAtlas.T)).ev := fun _ => by kernel_rfl

theorem o_lw_szAtlas : LoopsOK E_lw_szAtlas tt Z_lw_szAtlas O_lw_szAtlas C_lw_szAtlas := by
  have h : loopsOf C_lw_szAtlas = [] := by kernel_rfl
  unfold LoopsOK
  rw [h]
  exact fun _ h => absurd h List.not_mem_nil

theorem ok_lw_szAtlas : FnOK prog E_lw_szAtlas tt 31 D_lw_szAtlas K_lw_szAtlas Z_lw_szAtlas O_lw_szAtlas f31 C_lw_szAtlas (fun x => T_lw_szAtlas x.1.1.1 x.1.1.2.1 x.1.1.2.2.1 x.1.1.2.2.2.1 x.1.2.1) (fun r => ((r, ()), ())) where
  at_ := func31
  name := by kernel_rfl
  body := by kernel_rfl
  res := by kernel_rfl
  ok := by kernel_rfl
  arity := fun _ => Nat.le_of_ble_eq_true (by kernel_rfl)
  pin := fun _ => by kernel_rfl
  chk := by kernel_rfl
  loops := o_lw_szAtlas
  run := e_lw_szAtlas
  F := fun _ => rfl
  emb := fun _ => rfl

theorem fd_lw_szAtlas : FDok prog (31, D_lw_szAtlas) := fn_ok mixed (env_ok (List.forall_mem_cons.2 ⟨fd_lw_szField, List.forall_mem_cons.2 ⟨fd_lw_szIntS, fun _ h => absurd h List.not_mem_nil⟩⟩)) tabOK ok_lw_szAtlas

theorem e_lw_toIntS : ∀ x : D_lw_toIntS.T, ((acode E_lw_toIntS tt Z_lw_toIntS (orcOf O_lw_toIntS) C_lw_toIntS (entry A_lw_toIntS I_lw_toIntS x)).map (keepRet tt K_lw_toIntS)).ev = ((T_lw_toIntS x.1.1).map fun r => some (((((), ()), (r, ()))) : K_lw_toIntS.T)).ev := fun _ => by kernel_rfl

noncomputable def B_lw_toIntS_0 : Code := ((loopsOf C_lw_toIntS).find? fun p => Nat.beq p.1 0).elim .skip (·.2)
theorem l_lw_toIntS_0 : (DL_lw_toIntS_0).OK E_lw_toIntS tt Z_lw_toIntS (orcOf O_lw_toIntS) B_lw_toIntS_0 where
  ok := by kernel_rfl
  oke := by kernel_rfl
  okr := by kernel_rfl
  eta := fun _ => rfl
  step := fun _ _ => by kernel_rfl

theorem o_lw_toIntS : LoopsOK E_lw_toIntS tt Z_lw_toIntS O_lw_toIntS C_lw_toIntS := by
  have h : loopsOf C_lw_toIntS = [(0, B_lw_toIntS_0)] := by kernel_rfl
  unfold LoopsOK
  rw [h]
  exact List.forall_mem_cons.2 ⟨fun d h => (by have e : some (DL_lw_toIntS_0) = some d := h; cases e; exact l_lw_toIntS_0), fun _ h => absurd h List.not_mem_nil⟩

theorem ok_lw_toIntS : FnOK prog E_lw_toIntS tt 36 D_lw_toIntS K_lw_toIntS Z_lw_toIntS O_lw_toIntS f36 C_lw_toIntS (fun x => T_lw_toIntS x.1.1) (fun r => (((), ()), (r, ()))) where
  at_ := func36
  name := by kernel_rfl
  body := by kernel_rfl
  res := by kernel_rfl
  ok := by kernel_rfl
  arity := fun _ => Nat.le_of_ble_eq_true (by kernel_rfl)
  pin := fun _ => by kernel_rfl
  chk := by kernel_rfl
  loops := o_lw_toIntS
  run := e_lw_toIntS
  F := fun _ => rfl
  emb := fun _ => rfl

theorem fd_lw_toIntS : FDok prog (36, D_lw_toIntS) := fn_ok mixed (env_ok (fun _ h => absurd h List.not_mem_nil)) tabOK ok_lw_toIntS

theorem e_lw_toIntSS : ∀ x : D_lw_toIntSS.T, ((acode E_lw_toIntSS tt Z_lw_toIntSS (orcOf O_lw_toIntSS) C_lw_toIntSS (entry A_lw_toIntSS I_lw_toIntSS x)).map (keepRet tt K_lw_toIntSS)).ev = ((T_lw_toIntSS x.1.1).map fun r => some (((((), ()), (r, ()))) : K_lw_toIntSS.T)).ev := fun _ => by kernel_rfl

noncomputable def B_lw_toIntSS_0 : Code := ((loopsOf C_lw_toIntSS).find? fun p => Nat.beq p.1 0).elim .skip (·.2)
theorem l_lw_toIntSS_0 : (DL_lw_toIntSS_0).OK E_lw_toIntSS tt Z_lw_toIntSS (orcOf O_lw_toIntSS) B_lw_toIntSS_0 where
  ok := by kernel_rfl
  oke := by kernel_rfl
  okr := by kernel_rfl
  eta := fun _ => rfl
  step := fun _ _ => by kernel_rfl

theorem o_lw_toIntSS : LoopsOK E_lw_toIntSS tt Z_lw_toIntSS O_lw_toIntSS C_lw_toIntSS := by
  have h : loopsOf C_lw_toIntSS = [(0, B_lw_toIntSS_0)] := by kernel_rfl
  unfold LoopsOK
  rw [h]
  exact List.forall_mem_cons.2 ⟨fun d h => (by have e : some (DL_lw_toIntSS_0) = some d := h; cases e; exact l_lw_toIntSS_0), fun _ h => absurd h List.not_mem_nil⟩

theorem ok_lw_toIntSS : FnOK prog E_lw_toIntSS tt 17 D_lw_toIntSS K_lw_toIntSS Z_lw_toIntSS O_lw_toIntSS f17 C_lw_toIntSS (fun x => T_lw_toIntSS x.1.1) (fun r => (((), ()), (r, ()))) where
  at_ := func17
  name := by kernel_rfl
  body := by kernel_rfl
  res := by kernel_rfl
  ok := by kernel_rfl
  arity := fun _ => Nat.le_of_ble_eq_true (by kernel_rfl)
  pin := fun _ => by kernel_rfl
  chk := by kernel_rfl
  loops := o_lw_toIntSS
  run := e_lw_toIntSS
  F := fun _ => rfl
  emb := fun _ => rfl

theorem fd_lw_toIntSS : FDok prog (17, D_lw_toIntSS) := fn_ok mixed (env_ok (List.forall_mem_cons.2 ⟨fd_lw_toIntS, fun _ h => absurd h List.not_mem_nil⟩)) tabOK ok_lw_toIntSS

theorem e_lw_toField : ∀ x : D_lw_toField.T, ((acode E_lw_toField tt Z_lw_toField (orcOf O_lw_toField) C_lw_toField (entry A_lw_toField I_lw_toField x)).map (keepRet tt K_lw_toField)).ev = ((T_lw_toField x.1.1.1 x.1.1.2.1).map fun r => some (((((r.1, (r.2, ())), ()), ())) : K_lw_toField.T)).ev := fun _ => by kernel_rfl

theorem o_lw_toField : LoopsOK E_lw_toField tt Z_lw_toField O_lw_toField C_lw_toField := by
  have h : loopsOf C_lw_toField = [] := by kernel_rfl
  unfold LoopsOK
  rw [h]
  exact fun _ h => absurd h List.not_mem_nil

theorem ok_lw_toField : FnOK prog E_lw_toField tt 24 D_lw_toField K_lw_toField Z_lw_toField O_lw_toField f24 C_lw_toField (fun x => T_lw_toField x.1.1.1 x.1.1.2.1) (fun r => (((r.1, (r.2, ())), ()), ())) where
  at_ := func24
  name := by kernel_rfl
  body := by kernel_rfl
  res := by kernel_rfl
  ok := by kernel_rfl
  arity := fun _ => Nat.le_of_ble_eq_true (by kernel_rfl)
  pin := fun _ => by kernel_rfl
  chk := by kernel_rfl
  loops := o_lw_toField
  run := e_lw_toField
  F := fun _ => rfl
  emb := fun _ => rfl

theorem fd_lw_toField : FDok prog (24, D_lw_toField) := fn_ok mixed (env_ok (List.forall_mem_cons.2 ⟨fd_lw_toIntS, List.forall_mem_cons.2 ⟨fd_lw_toIntSS, fun _ h => absurd h List.not_mem_nil⟩⟩)) tabOK ok_lw_toField

theorem e_lw_toAtlas : ∀ x : D_lw_toAtlas.T, ((acode E_lw_toAtlas tt Z_lw_toAtlas (orcOf O_lw_toAtlas) C_lw_toAtlas (entry A_lw_toAtlas I_lw_toAtlas x)).map (keepRet tt K_lw_toAtlas)).ev = ((T_lw_toAtlas x.1.1.1 x.1.1.2.1 x.1.1.2.2.1 x.1.1.2.2.2.1).map fun r => some (((((r.1, (r.2.1, (r.2.2.1, (r.2.2.2, ())))), ()), ())) : K_lw_toAtlas.T)).ev := fun _ => by kernel_rfl

theorem o_lw_toAtlas : LoopsOK E_lw_toAtlas tt Z_lw_toAtlas O_lw_toAtlas C_lw_toAtlas := by
  have h : loopsOf C_lw_toAtlas = [] := by kernel_rfl
  unfold LoopsOK
  rw [h]
  exact fun _ h => absurd h List.not_mem_nil

theorem ok_lw_toAtlas : FnOK prog E_lw_toAtlas tt 33 D_lw_toAtlas K_lw_toAtlas Z_lw_toAtlas O_lw_toAtlas f33 C_lw_toAtlas (fun x => T_lw_toAtlas x.1.1.1 x.1.1.2.1 x.1.1.2.2.1 x.1.1.2.2.2.1) (fun r => (((r.1, (r.2.1, (r.2.2.1, (r.2.2.2, ())))), ()), ())) where
  at_ := func33
  name := by kernel_rfl
  body := by kernel_rfl
  res := by kernel_rfl
  ok := by kernel_rfl
  arity := fun _ => Nat.le_of_ble_eq_true (by kernel_rfl)
  pin := fun _ => by kernel_rfl
  chk := by kernel_rfl
  loops := o_lw_toAtlas
  run := e_lw_toAtlas
  F := fun _ => rfl
  emb := fun _ => rfl

theorem fd_lw_toAtlas : FDok prog (33, D_lw_toAtlas) := fn_ok mixed (env_ok (List.forall_mem_cons.2 ⟨fd_lw_toField, List.forall_mem_cons.2 ⟨fd_lw_toIntS, fun _ h => absurd h List.not_mem_nil⟩⟩)) tabOK ok_lw_toAtlas

theorem e_sp_l1In : ∀ x : D_sp_l1In.T, ((acode E_sp_l1In tt Z_sp_l1In (orcOf O_sp_l1In) C_sp_l1In (entry A_sp_l1In I_sp_l1In x)).map (keepRet tt K_sp_l1In)).ev = ((T_sp_l1In x.1.1 x.1.2.1 x.1.2.2.1).map fun r => some ((((r, ()), ())) : K_sp_l1In.T)).ev := fun _ => by kernel_rfl

theorem o_sp_l1In : LoopsOK E_sp_l1In tt Z_sp_l1In O_sp_l1In C_sp_l1In := by
  have h : loopsOf C_sp_l1In = [] := by kernel_rfl
  unfold LoopsOK
  rw [h]
  exact fun _ h => absurd h List.not_mem_nil

theorem ok_sp_l1In : FnOK prog E_sp_l1In tt 93 D_sp_l1In K_sp_l1In Z_sp_l1In O_sp_l1In f93 C_sp_l1In (fun x => T_sp_l1In x.1.1 x.1.2.1 x.1.2.2.1) (fun r => ((r, ()), ())) where
  at_ := func93
  name := by kernel_rfl
  body := by kernel_rfl
  res := by kernel_rfl
  ok := by kernel_rfl
  arity := fun _ => Nat.le_of_ble_eq_true (by kernel_rfl)
  pin := fun _ => by kernel_rfl
  chk := by kernel_rfl
  loops := o_sp_l1In
  run := e_sp_l1In
  F := fun _ => rfl
  emb := fun _ => rfl

theorem fd_sp_l1In : FDok prog (93, D_sp_l1In) := fn_ok mixed (env_ok (fun _ h => absurd h List.not_mem_nil)) tabOK ok_sp_l1In

theorem e_sp_l2Row : ∀ x : D_sp_l2Row.T, ((acode E_sp_l2Row tt Z_sp_l2Row (orcOf O_sp_l2Row) C_sp_l2Row (entry A_sp_l2Row I_sp_l2Row x)).map (keepRet tt K_sp_l2Row)).ev = ((T_sp_l2Row x.1.1 x.1.2.1 x.1.2.2.1).map fun r => some ((((r, ()), ())) : K_sp_l2Row.T)).ev := fun _ => by kernel_rfl

noncomputable def B_sp_l2Row_0 : Code := ((loopsOf C_sp_l2Row).find? fun p => Nat.beq p.1 0).elim .skip (·.2)
theorem l_sp_l2Row_0 : (DL_sp_l2Row_0).OK E_sp_l2Row tt Z_sp_l2Row (orcOf O_sp_l2Row) B_sp_l2Row_0 where
  ok := by kernel_rfl
  oke := by kernel_rfl
  okr := by kernel_rfl
  eta := fun _ => rfl
  step := fun _ _ => by kernel_rfl

theorem o_sp_l2Row : LoopsOK E_sp_l2Row tt Z_sp_l2Row O_sp_l2Row C_sp_l2Row := by
  have h : loopsOf C_sp_l2Row = [(0, B_sp_l2Row_0)] := by kernel_rfl
  unfold LoopsOK
  rw [h]
  exact List.forall_mem_cons.2 ⟨fun d h => (by have e : some (DL_sp_l2Row_0) = some d := h; cases e; exact l_sp_l2Row_0), fun _ h => absurd h List.not_mem_nil⟩

theorem ok_sp_l2Row : FnOK prog E_sp_l2Row tt 118 D_sp_l2Row K_sp_l2Row Z_sp_l2Row O_sp_l2Row f118 C_sp_l2Row (fun x => T_sp_l2Row x.1.1 x.1.2.1 x.1.2.2.1) (fun r => ((r, ()), ())) where
  at_ := func118
  name := by kernel_rfl
  body := by kernel_rfl
  res := by kernel_rfl
  ok := by kernel_rfl
  arity := fun _ => Nat.le_of_ble_eq_true (by kernel_rfl)
  pin := fun _ => by kernel_rfl
  chk := by kernel_rfl
  loops := o_sp_l2Row
  run := e_sp_l2Row
  F := fun _ => rfl
  emb := fun _ => rfl

theorem fd_sp_l2Row : FDok prog (118, D_sp_l2Row) := fn_ok mixed (env_ok (List.forall_mem_cons.2 ⟨fd_sp_l1In, fun _ h => absurd h List.not_mem_nil⟩)) tabOK ok_sp_l2Row

theorem e_sp_l2Good : ∀ x : D_sp_l2Good.T, ((acode E_sp_l2Good tt Z_sp_l2Good (orcOf O_sp_l2Good) C_sp_l2Good (entry A_sp_l2Good I_sp_l2Good x)).map (keepRet tt K_sp_l2Good)).ev = ((T_sp_l2Good x.1.1.1 x.1.1.2.1).map fun r => some ((((r, ()), ())) : K_sp_l2Good.T)).ev := fun _ => by kernel_rfl

noncomputable def B_sp_l2Good_0 : Code := ((loopsOf C_sp_l2Good).find? fun p => Nat.beq p.1 0).elim .skip (·.2)
theorem l_sp_l2Good_0 : (DL_sp_l2Good_0).OK E_sp_l2Good tt Z_sp_l2Good (orcOf O_sp_l2Good) B_sp_l2Good_0 where
  ok := by kernel_rfl
  oke := by kernel_rfl
  okr := by kernel_rfl
  eta := fun _ => rfl
  step := fun _ _ => by kernel_rfl

theorem o_sp_l2Good : LoopsOK E_sp_l2Good tt Z_sp_l2Good O_sp_l2Good C_sp_l2Good := by
  have h : loopsOf C_sp_l2Good = [(0, B_sp_l2Good_0)] := by kernel_rfl
  unfold LoopsOK
  rw [h]
  exact List.forall_mem_cons.2 ⟨fun d h => (by have e : some (DL_sp_l2Good_0) = some d := h; cases e; exact l_sp_l2Good_0), fun _ h => absurd h List.not_mem_nil⟩

theorem ok_sp_l2Good : FnOK prog E_sp_l2Good tt 138 D_sp_l2Good K_sp_l2Good Z_sp_l2Good O_sp_l2Good f138 C_sp_l2Good (fun x => T_sp_l2Good x.1.1.1 x.1.1.2.1) (fun r => ((r, ()), ())) where
  at_ := func138
  name := by kernel_rfl
  body := by kernel_rfl
  res := by kernel_rfl
  ok := by kernel_rfl
  arity := fun _ => Nat.le_of_ble_eq_true (by kernel_rfl)
  pin := fun _ => by kernel_rfl
  chk := by kernel_rfl
  loops := o_sp_l2Good
  run := e_sp_l2Good
  F := fun _ => rfl
  emb := fun _ => rfl

theorem fd_sp_l2Good : FDok prog (138, D_sp_l2Good) := fn_ok mixed (env_ok (List.forall_mem_cons.2 ⟨fd_sp_l2Row, List.forall_mem_cons.2 ⟨fd_sp_l1In, fun _ h => absurd h List.not_mem_nil⟩⟩)) tabOK ok_sp_l2Good

theorem e_sp_l1Rising : ∀ x : D_sp_l1Rising.T, ((acode E_sp_l1Rising tt Z_sp_l1Rising (orcOf O_sp_l1Rising) C_sp_l1Rising (entry A_sp_l1Rising I_sp_l1Rising x)).map (keepRet tt K_sp_l1Rising)).ev = ((T_sp_l1Rising x.1.1 x.1.2.1 x.1.2.2.1).map fun r => some ((((r, ()), ())) : K_sp_l1Rising.T)).ev := fun _ => by kernel_rfl

noncomputable def B_sp_l1Rising_0 : Code := ((loopsOf C_sp_l1Rising).find? fun p => Nat.beq p.1 0).elim .skip (·.2)
theorem l_sp_l1Rising_0 : (DL_sp_l1Rising_0).OK E_sp_l1Rising tt Z_sp_l1Rising (orcOf O_sp_l1Rising) B_sp_l1Rising_0 where
  ok := by kernel_rfl
  oke := by kernel_rfl
  okr := by kernel_rfl
  eta := fun _ => rfl
  step := fun _ _ => by kernel_rfl

theorem o_sp_l1Rising : LoopsOK E_sp_l1Rising tt Z_sp_l1Rising O_sp_l1Rising C_sp_l1Rising := by
  have h : loopsOf C_sp_l1Rising = [(0, B_sp_l1Rising_0)] := by kernel_rfl
  unfold LoopsOK
  rw [h]
  exact List.forall_mem_cons.2 ⟨fun d h => (by have e : some (DL_sp_l1Rising_0) = some d := h; cases e; exact l_sp_l1Rising_0), fun _ h => absurd h List.not_mem_nil⟩

theorem ok_sp_l1Rising : FnOK prog E_sp_l1Rising tt 178 D_sp_l1Rising K_sp_l1Rising Z_sp_l1Rising O_sp_l1Rising f178 C_sp_l1Rising (fun x => T_sp_l1Rising x.1.1 x.1.2.1 x.1.2.2.1) (fun r => ((r, ()), ())) where
  at_ := func178
  name := by kernel_rfl
  body := by kernel_rfl
  res := by kernel_rfl
  ok := by kernel_rfl
  arity := fun _ => Nat.le_of_ble_eq_true (by kernel_rfl)
  pin := fun _ => by kernel_rfl
  chk := by kernel_rfl
  loops := o_sp_l1Rising
  run := e_sp_l1Rising
  F := fun _ => rfl
  emb := fun _ => rfl

theorem fd_sp_l1Rising : FDok prog (178, D_sp_l1Rising) := fn_ok mixed (env_ok (List.forall_mem_cons.2 ⟨fd_sp_l1In, fun _ h => absurd h List.not_mem_nil⟩)) tabOK ok_sp_l1Rising

theorem e_sp_l2Set : ∀ x : D_sp_l2Set.T, ((acode E_sp_l2Set tt Z_sp_l2Set (orcOf O_sp_l2Set) C_sp_l2Set (entry A_sp_l2Set I_sp_l2Set x)).map (keepRet tt K_sp_l2Set)).ev = ((T_sp_l2Set x.1.1.1 x.1.1.2.1 x.1.2.1).map fun r => some ((((r, ()), ())) : K_sp_l2Set.T)).ev := fun _ => by kernel_rfl

theorem o_sp_l2Set : LoopsOK E_sp_l2Set tt Z_sp_l2Set O_sp_l2Set C_sp_l2Set := by
  have h : loopsOf C_sp_l2Set = [] := by kernel_rfl
  unfold LoopsOK
  rw [h]
  exact fun _ h => absurd h List.not_mem_nil

theorem ok_sp_l2Set : FnOK prog E_sp_l2Set tt 139 D_sp_l2Set K_sp_l2Set Z_sp_l2Set O_sp_l2Set f139 C_sp_l2Set (fun x => T_sp_l2Set x.1.1.1 x.1.1.2.1 x.1.2.1) (fun r => ((r, ()), ())) where
  at_ := func139
  name := by kernel_rfl
  body := by kernel_rfl
  res := by kernel_rfl
  ok := by kernel_rfl
  arity := fun _ => Nat.le_of_ble_eq_true (by kernel_rfl)
  pin := fun _ => by kernel_rfl
  chk := by kernel_rfl
  loops := o_sp_l2Set
  run := e_sp_l2Set
  F := fun _ => rfl
  emb := fun _ => rfl

theorem fd_sp_l2Set : FDok prog (139, D_sp_l2Set) := fn_ok mixed (env_ok (List.forall_mem_cons.2 ⟨fd_sp_l1Rising, fun _ h => absurd h List.not_mem_nil⟩)) tabOK ok_sp_l2Set

theorem e_sp_l12Good : ∀ x : D_sp_l12Good.T, ((acode E_sp_l12Good tt Z_sp_l12Good (orcOf O_sp_l12Good) C_sp_l12Good (entry A_sp_l12Good I_sp_l12Good x)).map (keepRet tt K_sp_l12Good)).ev = ((T_sp_l12Good x.1.1.1 x.1.1.2.1 x.1.1.2.2.1 x.1.1.2.2.2.1).map fun r => some ((((r, ()), ())) : K_sp_l12Good.T)).ev := fun _ => by kernel_rfl

theorem o_sp_l12Good : LoopsOK E_sp_l12Good tt Z_sp_l12Good O_sp_l12Good C_sp_l12Good := by
  have h : loopsOf C_sp_l12Good = [] := by kernel_rfl
  unfold LoopsOK
  rw [h]
  exact fun _ h => absurd h List.not_mem_nil

theorem ok_sp_l12Good : FnOK prog E_sp_l12Good tt 77 D_sp_l12Good K_sp_l12Good Z_sp_l12Good O_sp_l12Good f77 C_sp_l12Good (fun x => T_sp_l12Good x.1.1.1 x.1.1.2.1 x.1.1.2.2.1 x.1.1.2.2.2.1) (fun r => ((r, ()), ())) where
  at_ := func77
  name := by kernel_rfl
  body := by kernel_rfl
  res := by kernel_rfl
  ok := by kernel_rfl
  arity := fun _ => Nat.le_of_ble_eq_true (by kernel_rfl)
  pin := fun _ => by kernel_rfl
  chk := by kernel_rfl
  loops := o_sp_l12Good
  run := e_sp_l12Good
  F := fun _ => rfl
  emb := fun _ => rfl

theorem fd_sp_l12Good : FDok prog (77, D_sp_l12Good) := fn_ok mixed (env_ok (List.forall_mem_cons.2 ⟨fd_sp_l2Good, List.forall_mem_cons.2 ⟨fd_sp_l2Set, List.forall_mem_cons.2 ⟨fd_sp_l1In, fun _ h => absurd h List.not_mem_nil⟩⟩⟩)) tabOK ok_sp_l12Good

theorem e_sp_l2Site : ∀ x : D_sp_l2Site.T, ((acode E_sp_l2Site tt Z_sp_l2Site (orcOf O_sp_l2Site) C_sp_l2Site (entry A_sp_l2Site I_sp_l2Site x)).map (keepRet tt K_sp_l2Site)).ev = ((T_sp_l2Site x.1.1.1 x.1.1.2.1 x.1.2.1 x.1.2.2.1).map fun r => some ((((r, ()), ())) : K_sp_l2Site.T)).ev := fun _ => by kernel_rfl

noncomputable def B_sp_l2Site_0 : Code := ((loopsOf C_sp_l2Site).find? fun p => Nat.beq p.1 0).elim .skip (·.2)
theorem l_sp_l2Site_0 : (DL_sp_l2Site_0).OK E_sp_l2Site tt Z_sp_l2Site (orcOf O_sp_l2Site) B_sp_l2Site_0 where
  ok := by kernel_rfl
  oke := by kernel_rfl
  okr := by kernel_rfl
  eta := fun _ => rfl
  step := fun _ _ => by kernel_rfl

theorem o_sp_l2Site : LoopsOK E_sp_l2Site tt Z_sp_l2Site O_sp_l2Site C_sp_l2Site := by
  have h : loopsOf C_sp_l2Site = [(0, B_sp_l2Site_0)] := by kernel_rfl
  unfold LoopsOK
  rw [h]
  exact List.forall_mem_cons.2 ⟨fun d h => (by have e : some (DL_sp_l2Site_0) = some d := h; cases e; exact l_sp_l2Site_0), fun _ h => absurd h List.not_mem_nil⟩

theorem ok_sp_l2Site : FnOK prog E_sp_l2Site tt 185 D_sp_l2Site K_sp_l2Site Z_sp_l2Site O_sp_l2Site f185 C_sp_l2Site (fun x => T_sp_l2Site x.1.1.1 x.1.1.2.1 x.1.2.1 x.1.2.2.1) (fun r => ((r, ()), ())) where
  at_ := func185
  name := by kernel_rfl
  body := by kernel_rfl
  res := by kernel_rfl
  ok := by kernel_rfl
  arity := fun _ => Nat.le_of_ble_eq_true (by kernel_rfl)
  pin := fun _ => by kernel_rfl
  chk := by kernel_rfl
  loops := o_sp_l2Site
  run := e_sp_l2Site
  F := fun _ => rfl
  emb := fun _ => rfl

theorem fd_sp_l2Site : FDok prog (185, D_sp_l2Site) := fn_ok mixed (env_ok (fun _ h => absurd h List.not_mem_nil)) tabOK ok_sp_l2Site

theorem e_sp_l2Nearest : ∀ x : D_sp_l2Nearest.T, ((acode E_sp_l2Nearest tt Z_sp_l2Nearest (orcOf O_sp_l2Nearest) C_sp_l2Nearest (entry A_sp_l2Nearest I_sp_l2Nearest x)).map (keepRet tt K_sp_l2Nearest)).ev = ((T_sp_l2Nearest x.1.1.1 x.1.1.2.1 x.1.2.1 x.1.2.2.1).map fun r => some ((((r, ()), ())) : K_sp_l2Nearest.T)).ev := fun _ => by kernel_rfl

theorem o_sp_l2Nearest : LoopsOK E_sp_l2Nearest tt Z_sp_l2Nearest O_sp_l2Nearest C_sp_l2Nearest := by
  have h : loopsOf C_sp_l2Nearest = [] := by kernel_rfl
  unfold LoopsOK
  rw [h]
  exact fun _ h => absurd h List.not_mem_nil

theorem ok_sp_l2Nearest : FnOK prog E_sp_l2Nearest tt 164 D_sp_l2Nearest K_sp_l2Nearest Z_sp_l2Nearest O_sp_l2Nearest f164 C_sp_l2Nearest (fun x => T_sp_l2Nearest x.1.1.1 x.1.1.2.1 x.1.2.1 x.1.2.2.1) (fun r => ((r, ()), ())) where
  at_ := func164
  name := by kernel_rfl
  body := by kernel_rfl
  res := by kernel_rfl
  ok := by kernel_rfl
  arity := fun _ => Nat.le_of_ble_eq_true (by kernel_rfl)
  pin := fun _ => by kernel_rfl
  chk := by kernel_rfl
  loops := o_sp_l2Nearest
  run := e_sp_l2Nearest
  F := fun _ => rfl
  emb := fun _ => rfl

theorem fd_sp_l2Nearest : FDok prog (164, D_sp_l2Nearest) := fn_ok mixed (env_ok (List.forall_mem_cons.2 ⟨fd_sp_l2Site, fun _ h => absurd h List.not_mem_nil⟩)) tabOK ok_sp_l2Nearest

theorem e_sp_l2Serve : ∀ x : D_sp_l2Serve.T, ((acode E_sp_l2Serve tt Z_sp_l2Serve (orcOf O_sp_l2Serve) C_sp_l2Serve (entry A_sp_l2Serve I_sp_l2Serve x)).map (keepRet tt K_sp_l2Serve)).ev = ((T_sp_l2Serve x.1.1.1 x.1.1.2.1 x.1.2.1).map fun r => some ((((r, ()), ())) : K_sp_l2Serve.T)).ev := fun _ => by kernel_rfl

noncomputable def B_sp_l2Serve_0 : Code := ((loopsOf C_sp_l2Serve).find? fun p => Nat.beq p.1 0).elim .skip (·.2)
theorem l_sp_l2Serve_0 : (DL_sp_l2Serve_0).OK E_sp_l2Serve tt Z_sp_l2Serve (orcOf O_sp_l2Serve) B_sp_l2Serve_0 where
  ok := by kernel_rfl
  oke := by kernel_rfl
  okr := by kernel_rfl
  eta := fun _ => rfl
  step := fun _ _ => by kernel_rfl

theorem o_sp_l2Serve : LoopsOK E_sp_l2Serve tt Z_sp_l2Serve O_sp_l2Serve C_sp_l2Serve := by
  have h : loopsOf C_sp_l2Serve = [(0, B_sp_l2Serve_0)] := by kernel_rfl
  unfold LoopsOK
  rw [h]
  exact List.forall_mem_cons.2 ⟨fun d h => (by have e : some (DL_sp_l2Serve_0) = some d := h; cases e; exact l_sp_l2Serve_0), fun _ h => absurd h List.not_mem_nil⟩

theorem ok_sp_l2Serve : FnOK prog E_sp_l2Serve tt 144 D_sp_l2Serve K_sp_l2Serve Z_sp_l2Serve O_sp_l2Serve f144 C_sp_l2Serve (fun x => T_sp_l2Serve x.1.1.1 x.1.1.2.1 x.1.2.1) (fun r => ((r, ()), ())) where
  at_ := func144
  name := by kernel_rfl
  body := by kernel_rfl
  res := by kernel_rfl
  ok := by kernel_rfl
  arity := fun _ => Nat.le_of_ble_eq_true (by kernel_rfl)
  pin := fun _ => by kernel_rfl
  chk := by kernel_rfl
  loops := o_sp_l2Serve
  run := e_sp_l2Serve
  F := fun _ => rfl
  emb := fun _ => rfl

theorem fd_sp_l2Serve : FDok prog (144, D_sp_l2Serve) := fn_ok mixed (env_ok (List.forall_mem_cons.2 ⟨fd_sp_l2Nearest, fun _ h => absurd h List.not_mem_nil⟩)) tabOK ok_sp_l2Serve

theorem e_sp_l2Pay : ∀ x : D_sp_l2Pay.T, ((acode E_sp_l2Pay tt Z_sp_l2Pay (orcOf O_sp_l2Pay) C_sp_l2Pay (entry A_sp_l2Pay I_sp_l2Pay x)).map (keepRet tt K_sp_l2Pay)).ev = ((T_sp_l2Pay x.1.1.1 x.1.1.2.1 x.1.2.1).map fun r => some ((((r, ()), ())) : K_sp_l2Pay.T)).ev := fun _ => by kernel_rfl

noncomputable def B_sp_l2Pay_0 : Code := ((loopsOf C_sp_l2Pay).find? fun p => Nat.beq p.1 0).elim .skip (·.2)
theorem l_sp_l2Pay_0 : (DL_sp_l2Pay_0).OK E_sp_l2Pay tt Z_sp_l2Pay (orcOf O_sp_l2Pay) B_sp_l2Pay_0 where
  ok := by kernel_rfl
  oke := by kernel_rfl
  okr := by kernel_rfl
  eta := fun _ => rfl
  step := fun _ _ => by kernel_rfl

theorem o_sp_l2Pay : LoopsOK E_sp_l2Pay tt Z_sp_l2Pay O_sp_l2Pay C_sp_l2Pay := by
  have h : loopsOf C_sp_l2Pay = [(0, B_sp_l2Pay_0)] := by kernel_rfl
  unfold LoopsOK
  rw [h]
  exact List.forall_mem_cons.2 ⟨fun d h => (by have e : some (DL_sp_l2Pay_0) = some d := h; cases e; exact l_sp_l2Pay_0), fun _ h => absurd h List.not_mem_nil⟩

theorem ok_sp_l2Pay : FnOK prog E_sp_l2Pay tt 145 D_sp_l2Pay K_sp_l2Pay Z_sp_l2Pay O_sp_l2Pay f145 C_sp_l2Pay (fun x => T_sp_l2Pay x.1.1.1 x.1.1.2.1 x.1.2.1) (fun r => ((r, ()), ())) where
  at_ := func145
  name := by kernel_rfl
  body := by kernel_rfl
  res := by kernel_rfl
  ok := by kernel_rfl
  arity := fun _ => Nat.le_of_ble_eq_true (by kernel_rfl)
  pin := fun _ => by kernel_rfl
  chk := by kernel_rfl
  loops := o_sp_l2Pay
  run := e_sp_l2Pay
  F := fun _ => rfl
  emb := fun _ => rfl

theorem fd_sp_l2Pay : FDok prog (145, D_sp_l2Pay) := fn_ok mixed (env_ok (fun _ h => absurd h List.not_mem_nil)) tabOK ok_sp_l2Pay

theorem e_sp_l2Total : ∀ x : D_sp_l2Total.T, ((acode E_sp_l2Total tt Z_sp_l2Total (orcOf O_sp_l2Total) C_sp_l2Total (entry A_sp_l2Total I_sp_l2Total x)).map (keepRet tt K_sp_l2Total)).ev = ((T_sp_l2Total x.1.1.1 x.1.1.2.1 x.1.2.1).map fun r => some ((((r, ()), ())) : K_sp_l2Total.T)).ev := fun _ => by kernel_rfl

theorem o_sp_l2Total : LoopsOK E_sp_l2Total tt Z_sp_l2Total O_sp_l2Total C_sp_l2Total := by
  have h : loopsOf C_sp_l2Total = [] := by kernel_rfl
  unfold LoopsOK
  rw [h]
  exact fun _ h => absurd h List.not_mem_nil

theorem ok_sp_l2Total : FnOK prog E_sp_l2Total tt 82 D_sp_l2Total K_sp_l2Total Z_sp_l2Total O_sp_l2Total f82 C_sp_l2Total (fun x => T_sp_l2Total x.1.1.1 x.1.1.2.1 x.1.2.1) (fun r => ((r, ()), ())) where
  at_ := func82
  name := by kernel_rfl
  body := by kernel_rfl
  res := by kernel_rfl
  ok := by kernel_rfl
  arity := fun _ => Nat.le_of_ble_eq_true (by kernel_rfl)
  pin := fun _ => by kernel_rfl
  chk := by kernel_rfl
  loops := o_sp_l2Total
  run := e_sp_l2Total
  F := fun _ => rfl
  emb := fun _ => rfl

theorem fd_sp_l2Total : FDok prog (82, D_sp_l2Total) := fn_ok mixed (env_ok (List.forall_mem_cons.2 ⟨fd_sp_l2Serve, List.forall_mem_cons.2 ⟨fd_sp_l2Pay, fun _ h => absurd h List.not_mem_nil⟩⟩)) tabOK ok_sp_l2Total

theorem e_sp_AtlasTotal : ∀ x : D_sp_AtlasTotal.T, ((acode E_sp_AtlasTotal tt Z_sp_AtlasTotal (orcOf O_sp_AtlasTotal) C_sp_AtlasTotal (entry A_sp_AtlasTotal I_sp_AtlasTotal x)).map (keepRet tt K_sp_AtlasTotal)).ev = ((T_sp_AtlasTotal x.1.1.1 x.1.1.2.1 x.1.1.2.2.1 x.1.1.2.2.2.1).map fun r => some ((((r.1, (r.2, ())), ())) : K_sp_AtlasTotal.T)).ev := fun _ => by kernel_rfl

theorem o_sp_AtlasTotal : LoopsOK E_sp_AtlasTotal tt Z_sp_AtlasTotal O_sp_AtlasTotal C_sp_AtlasTotal := by
  have h : loopsOf C_sp_AtlasTotal = [] := by kernel_rfl
  unfold LoopsOK
  rw [h]
  exact fun _ h => absurd h List.not_mem_nil

theorem ok_sp_AtlasTotal : FnOK prog E_sp_AtlasTotal tt 32 D_sp_AtlasTotal K_sp_AtlasTotal Z_sp_AtlasTotal O_sp_AtlasTotal f32 C_sp_AtlasTotal (fun x => T_sp_AtlasTotal x.1.1.1 x.1.1.2.1 x.1.1.2.2.1 x.1.1.2.2.2.1) (fun r => ((r.1, (r.2, ())), ())) where
  at_ := func32
  name := by kernel_rfl
  body := by kernel_rfl
  res := by kernel_rfl
  ok := by kernel_rfl
  arity := fun _ => Nat.le_of_ble_eq_true (by kernel_rfl)
  pin := fun _ => by kernel_rfl
  chk := by kernel_rfl
  loops := o_sp_AtlasTotal
  run := e_sp_AtlasTotal
  F := fun _ => rfl
  emb := fun _ => rfl

theorem fd_sp_AtlasTotal : FDok prog (32, D_sp_AtlasTotal) := fn_ok mixed (env_ok (List.forall_mem_cons.2 ⟨fd_sp_l12Good, List.forall_mem_cons.2 ⟨fd_sp_l2Total, fun _ h => absurd h List.not_mem_nil⟩⟩)) tabOK ok_sp_AtlasTotal

theorem e_sp_l1Least : ∀ x : D_sp_l1Least.T, ((acode E_sp_l1Least tt Z_sp_l1Least (orcOf O_sp_l1Least) C_sp_l1Least (entry A_sp_l1Least I_sp_l1Least x)).map (keepRet tt K_sp_l1Least)).ev = ((T_sp_l1Least x.1.1 x.1.2.1).map fun r => some ((((r, ()), ())) : K_sp_l1Least.T)).ev := fun _ => by kernel_rfl

theorem o_sp_l1Least : LoopsOK E_sp_l1Least tt Z_sp_l1Least O_sp_l1Least C_sp_l1Least := by
  have h : loopsOf C_sp_l1Least = [] := by kernel_rfl
  unfold LoopsOK
  rw [h]
  exact fun _ h => absurd h List.not_mem_nil

theorem ok_sp_l1Least : FnOK prog E_sp_l1Least tt 157 D_sp_l1Least K_sp_l1Least Z_sp_l1Least O_sp_l1Least f157 C_sp_l1Least (fun x => T_sp_l1Least x.1.1 x.1.2.1) (fun r => ((r, ()), ())) where
  at_ := func157
  name := by kernel_rfl
  body := by kernel_rfl
  res := by kernel_rfl
  ok := by kernel_rfl
  arity := fun _ => Nat.le_of_ble_eq_true (by kernel_rfl)
  pin := fun _ => by kernel_rfl
  chk := by kernel_rfl
  loops := o_sp_l1Least
  run := e_sp_l1Least
  F := fun _ => rfl
  emb := fun _ => rfl

theorem fd_sp_l1Least : FDok prog (157, D_sp_l1Least) := fn_ok mixed (env_ok (fun _ h => absurd h List.not_mem_nil)) tabOK ok_sp_l1Least

theorem e_sp_l1Most : ∀ x : D_sp_l1Most.T, ((acode E_sp_l1Most tt Z_sp_l1Most (orcOf O_sp_l1Most) C_sp_l1Most (entry A_sp_l1Most I_sp_l1Most x)).map (keepRet tt K_sp_l1Most)).ev = ((T_sp_l1Most x.1.1 x.1.2.1).map fun r => some ((((r, ()), ())) : K_sp_l1Most.T)).ev := fun _ => by kernel_rfl

theorem o_sp_l1Most : LoopsOK E_sp_l1Most tt Z_sp_l1Most O_sp_l1Most C_sp_l1Most := by
  have h : loopsOf C_sp_l1Most = [] := by kernel_rfl
  unfold LoopsOK
  rw [h]
  exact fun _ h => absurd h List.not_mem_nil

theorem ok_sp_l1Most : FnOK prog E_sp_l1Most tt 163 D_sp_l1Most K_sp_l1Most Z_sp_l1Most O_sp_l1Most f163 C_sp_l1Most (fun x => T_sp_l1Most x.1.1 x.1.2.1) (fun r => ((r, ()), ())) where
  at_ := func163
  name := by kernel_rfl
  body := by kernel_rfl
  res := by kernel_rfl
  ok := by kernel_rfl
  arity := fun _ => Nat.le_of_ble_eq_true (by kernel_rfl)
  pin := fun _ => by kernel_rfl
  chk := by kernel_rfl
  loops := o_sp_l1Most
  run := e_sp_l1Most
  F := fun _ => rfl
  emb := fun _ => rfl

theorem fd_sp_l1Most : FDok prog (163, D_sp_l1Most) := fn_ok mixed (env_ok (fun _ h => absurd h List.not_mem_nil)) tabOK ok_sp_l1Most

theorem e_sp_l3Claim : ∀ x : D_sp_l3Claim.T, ((acode E_sp_l3Claim tt Z_sp_l3Claim (orcOf O_sp_l3Claim) C_sp_l3Claim (entry A_sp_l3Claim I_sp_l3Claim x)).map (keepRet tt K_sp_l3Claim)).ev = ((T_sp_l3Claim x.1.1.1 x.1.1.2.1 x.1.2.1 x.1.2.2.1 x.1.2.2.2.1).map fun r => some ((((r, ()), ())) : K_sp_l3Claim.T)).ev := fun _ => by kernel_rfl

noncomputable def B_sp_l3Claim_0 : Code := ((loopsOf C_sp_l3Claim).find? fun p => Nat.beq p.1 0).elim .skip (·.2)
theorem l_sp_l3Claim_0 : (DL_sp_l3Claim_0).OK E_sp_l3Claim tt Z_sp_l3Claim (orcOf O_sp_l3Claim) B_sp_l3Claim_0 where
  ok := by kernel_rfl
  oke := by kernel_rfl
  okr := by kernel_rfl
  eta := fun _ => rfl
  step := fun _ _ => by kernel_rfl

theorem o_sp_l3Claim : LoopsOK E_sp_l3Claim tt Z_sp_l3Claim O_sp_l3Claim C_sp_l3Claim := by
  have h : loopsOf C_sp_l3Claim = [(0, B_sp_l3Claim_0)] := by kernel_rfl
  unfold LoopsOK
  rw [h]
  exact List.forall_mem_cons.2 ⟨fun d h => (by have e : some (DL_sp_l3Claim_0) = some d := h; cases e; exact l_sp_l3Claim_0), fun _ h => absurd h List.not_mem_nil⟩

theorem ok_sp_l3Claim : FnOK prog E_sp_l3Claim tt 182 D_sp_l3Claim K_sp_l3Claim Z_sp_l3Claim O_sp_l3Claim f182 C_sp_l3Claim (fun x => T_sp_l3Claim x.1.1.1 x.1.1.2.1 x.1.2.1 x.1.2.2.1 x.1.2.2.2.1) (fun r => ((r, ()), ())) where
  at_ := func182
  name := by kernel_rfl
  body := by kernel_rfl
  res := by kernel_rfl
  ok := by kernel_rfl
  arity := fun _ => Nat.le_of_ble_eq_true (by kernel_rfl)
  pin := fun _ => by kernel_rfl
  chk := by kernel_rfl
  loops := o_sp_l3Claim
  run := e_sp_l3Claim
  F := fun _ => rfl
  emb := fun _ => rfl

theorem fd_sp_l3Claim : FDok prog (182, D_sp_l3Claim) := fn_ok mixed (env_ok (List.forall_mem_cons.2 ⟨fd_sp_l1Most, fun _ h => absurd h List.not_mem_nil⟩)) tabOK ok_sp_l3Claim

theorem e_sp_l3Next : ∀ x : D_sp_l3Next.T, ((acode E_sp_l3Next tt Z_sp_l3Next (orcOf O_sp_l3Next) C_sp_l3Next (entry A_sp_l3Next I_sp_l3Next x)).map (keepRet tt K_sp_l3Next)).ev = ((T_sp_l3Next x.1.1.1 x.1.1.2.1 x.1.2.1 x.1.2.2.1).map fun r => some ((((r, ()), ())) : K_sp_l3Next.T)).ev := fun _ => by kernel_rfl

noncomputable def B_sp_l3Next_0 : Code := ((loopsOf C_sp_l3Next).find? fun p => Nat.beq p.1 0).elim .skip (·.2)
theorem l_sp_l3Next_0 : (DL_sp_l3Next_0).OK E_sp_l3Next tt Z_sp_l3Next (orcOf O_sp_l3Next) B_sp_l3Next_0 where
  ok := by kernel_rfl
  oke := by kernel_rfl
  okr := by kernel_rfl
  eta := fun _ => rfl
  step := fun _ _ => by kernel_rfl

theorem o_sp_l3Next : LoopsOK E_sp_l3Next tt Z_sp_l3Next O_sp_l3Next C_sp_l3Next := by
  have h : loopsOf C_sp_l3Next = [(0, B_sp_l3Next_0)] := by kernel_rfl
  unfold LoopsOK
  rw [h]
  exact List.forall_mem_cons.2 ⟨fun d h => (by have e : some (DL_sp_l3Next_0) = some d := h; cases e; exact l_sp_l3Next_0), fun _ h => absurd h List.not_mem_nil⟩

theorem ok_sp_l3Next : FnOK prog E_sp_l3Next tt 158 D_sp_l3Next K_sp_l3Next Z_sp_l3Next O_sp_l3Next f158 C_sp_l3Next (fun x => T_sp_l3Next x.1.1.1 x.1.1.2.1 x.1.2.1 x.1.2.2.1) (fun r => ((r, ()), ())) where
  at_ := func158
  name := by kernel_rfl
  body := by kernel_rfl
  res := by kernel_rfl
  ok := by kernel_rfl
  arity := fun _ => Nat.le_of_ble_eq_true (by kernel_rfl)
  pin := fun _ => by kernel_rfl
  chk := by kernel_rfl
  loops := o_sp_l3Next
  run := e_sp_l3Next
  F := fun _ => rfl
  emb := fun _ => rfl

theorem fd_sp_l3Next : FDok prog (158, D_sp_l3Next) := fn_ok mixed (env_ok (List.forall_mem_cons.2 ⟨fd_sp_l3Claim, fun _ h => absurd h List.not_mem_nil⟩)) tabOK ok_sp_l3Next

theorem e_sp_l3Ascent : ∀ x : D_sp_l3Ascent.T, ((acode E_sp_l3Ascent tt Z_sp_l3Ascent (orcOf O_sp_l3Ascent) C_sp_l3Ascent (entry A_sp_l3Ascent I_sp_l3Ascent x)).map (keepRet tt K_sp_l3Ascent)).ev = ((T_sp_l3Ascent x.1.1.1 x.1.1.2.1).map fun r => some (((((), ()), (r, ()))) : K_sp_l3Ascent.T)).ev := fun _ => by kernel_rfl

noncomputable def B_sp_l3Ascent_2 : Code := ((loopsOf C_sp_l3Ascent).find? fun p => Nat.beq p.1 2).elim .skip (·.2)
theorem l_sp_l3Ascent_2 : (DL_sp_l3Ascent_2).OK E_sp_l3Ascent tt Z_sp_l3Ascent (orcOf O_sp_l3Ascent) B_sp_l3Ascent_2 where
  ok := by kernel_rfl
  oke := by kernel_rfl
  okr := by kernel_rfl
  eta := fun _ => rfl
  step := fun _ _ => by kernel_rfl

noncomputable def B_sp_l3Ascent_0 : Code := ((loopsOf C_sp_l3Ascent).find? fun p => Nat.beq p.1 0).elim .skip (·.2)
theorem l_sp_l3Ascent_0 : (DL_sp_l3Ascent_0).OK E_sp_l3Ascent tt Z_sp_l3Ascent (orcOf O_sp_l3Ascent) B_sp_l3Ascent_0 where
  ok := by kernel_rfl
  oke := by kernel_rfl
  okr := by kernel_rfl
  eta := fun _ => rfl
  step := fun _ _ => by kernel_rfl

noncomputable def B_sp_l3Ascent_6 : Code := ((loopsOf C_sp_l3Ascent).find? fun p => Nat.beq p.1 6).elim .skip (·.2)
theorem l_sp_l3Ascent_6 : (DL_sp_l3Ascent_6).OK E_sp_l3Ascent tt Z_sp_l3Ascent (orcOf O_sp_l3Ascent) B_sp_l3Ascent_6 where
  ok := by kernel_rfl
  oke := by kernel_rfl
  okr := by kernel_rfl
  eta := fun _ => rfl
  step := fun _ _ => by kernel_rfl

noncomputable def B_sp_l3Ascent_4 : Code := ((loopsOf C_sp_l3Ascent).find? fun p => Nat.beq p.1 4).elim .skip (·.2)
theorem l_sp_l3Ascent_4 : (DL_sp_l3Ascent_4).OK E_sp_l3Ascent tt Z_sp_l3Ascent (orcOf O_sp_l3Ascent) B_sp_l3Ascent_4 where
  ok := by kernel_rfl
  oke := by kernel_rfl
  okr := by kernel_rfl
  eta := fun _ => rfl
  step := fun _ _ => by kernel_rfl

theorem o_sp_l3Ascent : LoopsOK E_sp_l3Ascent tt Z_sp_l3Ascent O_sp_l3Ascent C_sp_l3Ascent := by
  have h : loopsOf C_sp_l3Ascent = [(0, B_sp_l3Ascent_0), (2, B_sp_l3Ascent_2), (4, B_sp_l3Ascent_4), (6, B_sp_l3Ascent_6)] := by kernel_rfl
  unfold LoopsOK
  rw [h]
  exact List.forall_mem_cons.2 ⟨fun d h => (by have e : some (DL_sp_l3Ascent_0) = some d := h; cases e; exact l_sp_l3Ascent_0), List.forall_mem_cons.2 ⟨fun d h => (by have e : some (DL_sp_l3Ascent_2) = some d := h; cases e; exact l_sp_l3Ascent_2), List.forall_mem_cons.2 ⟨fun d h => (by have e : some (DL_sp_l3Ascent_4) = some d := h; cases e; exact l_sp_l3Ascent_4), List.forall_mem_cons.2 ⟨fun d h => (by have e : some (DL_sp_l3Ascent_6) = some d := h; cases e; exact l_sp_l3Ascent_6), fun _ h => absurd h List.not_mem_nil⟩⟩⟩⟩

theorem ok_sp_l3Ascent : FnOK prog E_sp_l3Ascent tt 106 D_sp_l3Ascent K_sp_l3Ascent Z_sp_l3Ascent O_sp_l3Ascent f106 C_sp_l3Ascent (fun x => T_sp_l3Ascent x.1.1.1 x.1.1.2.1) (fun r => (((), ()), (r, ()))) where
  at_ := func106
  name := by kernel_rfl
  body := by kernel_rfl
  res := by kernel_rfl
  ok := by kernel_rfl
  arity := fun _ => Nat.le_of_ble_eq_true (by kernel_rfl)
  pin := fun _ => by kernel_rfl
  chk := by kernel_rfl
  loops := o_sp_l3Ascent
  run := e_sp_l3Ascent
  F := fun _ => rfl
  emb := fun _ => rfl

theorem fd_sp_l3Ascent : FDok prog (106, D_sp_l3Ascent) := fn_ok mixed (env_ok (List.forall_mem_cons.2 ⟨fd_sp_l1Least, List.forall_mem_cons.2 ⟨fd_sp_l3Next, fun _ h => absurd h List.not_mem_nil⟩⟩)) tabOK ok_sp_l3Ascent

theorem e_sp_l3Sum : ∀ x : D_sp_l3Sum.T, ((acode E_sp_l3Sum tt Z_sp_l3Sum (orcOf O_sp_l3Sum) C_sp_l3Sum (entry A_sp_l3Sum I_sp_l3Sum x)).map (keepRet tt K_sp_l3Sum)).ev = ((T_sp_l3Sum x.1.1).map fun r => some ((((r, ()), ())) : K_sp_l3Sum.T)).ev := fun _ => by kernel_rfl

noncomputable def B_sp_l3Sum_0 : Code := ((loopsOf C_sp_l3Sum).find? fun p => Nat.beq p.1 0).elim .skip (·.2)
theorem l_sp_l3Sum_0 : (DL_sp_l3Sum_0).OK E_sp_l3Sum tt Z_sp_l3Sum (orcOf O_sp_l3Sum) B_sp_l3Sum_0 where
  ok := by kernel_rfl
  oke := by kernel_rfl
  okr := by kernel_rfl
  eta := fun _ => rfl
  step := fun _ _ => by kernel_rfl

theorem o_sp_l3Sum : LoopsOK E_sp_l3Sum tt Z_sp_l3Sum O_sp_l3Sum C_sp_l3Sum := by
  have h : loopsOf C_sp_l3Sum = [(0, B_sp_l3Sum_0)] := by kernel_rfl
  unfold LoopsOK
  rw [h]
  exact List.forall_mem_cons.2 ⟨fun d h => (by have e : some (DL_sp_l3Sum_0) = some d := h; cases e; exact l_sp_l3Sum_0), fun _ h => absurd h List.not_mem_nil⟩

theorem ok_sp_l3Sum : FnOK prog E_sp_l3Sum tt 105 D_sp_l3Sum K_sp_l3Sum Z_sp_l3Sum O_sp_l3Sum f105 C_sp_l3Sum (fun x => T_sp_l3Sum x.1.1) (fun r => ((r, ()), ())) where
  at_ := func105
  name := by kernel_rfl
  body := by kernel_rfl
  res := by kernel_rfl
  ok := by kernel_rfl
  arity := fun _ => Nat.le_of_ble_eq_true (by kernel_rfl)
  pin := fun _ => by kernel_rfl
  chk := by kernel_rfl
  loops := o_sp_l3Sum
  run := e_sp_l3Sum
  F := fun _ => rfl
  emb := fun _ => rfl

theorem fd_sp_l3Sum : FDok prog (105, D_sp_l3Sum) := fn_ok mixed (env_ok (fun _ h => absurd h List.not_mem_nil)) tabOK ok_sp_l3Sum

theorem e_sp_AtlasGap : ∀ x : D_sp_AtlasGap.T, ((acode E_sp_AtlasGap tt Z_sp_AtlasGap (orcOf O_sp_AtlasGap) C_sp_AtlasGap (entry A_sp_AtlasGap I_sp_AtlasGap x)).map (keepRet tt K_sp_AtlasGap)).ev = ((T_sp_AtlasGap x.1.1.1 x.1.1.2.1 x.1.1.2.2.1 x.1.1.2.2.2.1).map fun r => some ((((r.1, (r.2, ())), ())) : K_sp_AtlasGap.T)).ev := fun _ => by kernel_rfl

theorem o_sp_AtlasGap : LoopsOK E_sp_AtlasGap tt Z_sp_AtlasGap O_sp_AtlasGap C_sp_AtlasGap := by
  have h : loopsOf C_sp_AtlasGap = [] := by kernel_rfl
  unfold LoopsOK
  rw [h]
  exact fun _ h => absurd h List.not_mem_nil

theorem ok_sp_AtlasGap : FnOK prog E_sp_AtlasGap tt 48 D_sp_AtlasGap K_sp_AtlasGap Z_sp_AtlasGap O_sp_AtlasGap f48 C_sp_AtlasGap (fun x => T_sp_AtlasGap x.1.1.1 x.1.1.2.1 x.1.1.2.2.1 x.1.1.2.2.2.1) (fun r => ((r.1, (r.2, ())), ())) where
  at_ := func48
  name := by kernel_rfl
  body := by kernel_rfl
  res := by kernel_rfl
  ok := by kernel_rfl
  arity := fun _ => Nat.le_of_ble_eq_true (by kernel_rfl)
  pin := fun _ => by kernel_rfl
  chk := by kernel_rfl
  loops := o_sp_AtlasGap
  run := e_sp_AtlasGap
  F := fun _ => rfl
  emb := fun _ => rfl

theorem fd_sp_AtlasGap : FDok prog (48, D_sp_AtlasGap) := fn_ok mixed (env_ok (List.forall_mem_cons.2 ⟨fd_sp_AtlasTotal, List.forall_mem_cons.2 ⟨fd_sp_l3Ascent, List.forall_mem_cons.2 ⟨fd_sp_l3Sum, fun _ h => absurd h List.not_mem_nil⟩⟩⟩)) tabOK ok_sp_AtlasGap

theorem e_im_between : ∀ x : D_im_between.T, ((acode E_im_between tt Z_im_between (orcOf O_im_between) C_im_between (entry A_im_between I_im_between x)).map (keepRet tt K_im_between)).ev = ((T_im_between x.1.1 x.1.2.1 x.1.2.2.1).map fun r => some ((((r, ()), ())) : K_im_between.T)).ev := fun _ => by kernel_rfl

theorem o_im_between : LoopsOK E_im_between tt Z_im_between O_im_between C_im_between := by
  have h : loopsOf C_im_between = [] := by kernel_rfl
  unfold LoopsOK
  rw [h]
  exact fun _ h => absurd h List.not_mem_nil

theorem ok_im_between : FnOK prog E_im_between tt 73 D_im_between K_im_between Z_im_between O_im_between f73 C_im_between (fun x => T_im_between x.1.1 x.1.2.1 x.1.2.2.1) (fun r => ((r, ()), ())) where
  at_ := func73
  name := by kernel_rfl
  body := by kernel_rfl
  res := by kernel_rfl
  ok := by kernel_rfl
  arity := fun _ => Nat.le_of_ble_eq_true (by kernel_rfl)
  pin := fun _ => by kernel_rfl
  chk := by kernel_rfl
  loops := o_im_between
  run := e_im_between
  F := fun _ => rfl
  emb := fun _ => rfl

theorem fd_im_between : FDok prog (73, D_im_between) := fn_ok mixed (env_ok (fun _ h => absurd h List.not_mem_nil)) tabOK ok_im_between

theorem e_slices_IndexFunc_Sint_int : ∀ x : D_slices_IndexFunc_Sint_int.T, ((acode E_slices_IndexFunc_Sint_int tt Z_slices_IndexFunc_Sint_int (orcOf O_slices_IndexFunc_Sint_int) C_slices_IndexFunc_Sint_int (entry A_slices_IndexFunc_Sint_int I_slices_IndexFunc_Sint_int x)).map (keepRet tt K_slices_IndexFunc_Sint_int)).ev = ((T_slices_IndexFunc_Sint_int x.1.1 x.1.2.1).map fun r => some ((((r, ()), ())) : K_slices_IndexFunc_Sint_int.T)).ev := fun _ => by kernel_rfl

noncomputable def B_slices_IndexFunc_Sint_int_0 : Code := ((loopsOf C_slices_IndexFunc_Sint_int).find? fun p => Nat.beq p.1 0).elim .skip (·.2)
theorem l_slices_IndexFunc_Sint_int_0 : (DL_slices_IndexFunc_Sint_int_0).OK E_slices_IndexFunc_Sint_int tt Z_slices_IndexFunc_Sint_int (orcOf O_slices_IndexFunc_Sint_int) B_slices_IndexFunc_Sint_int_0 where
  ok := by kernel_rfl
  oke := by kernel_rfl
  okr := by kernel_rfl
  eta := fun _ => rfl
  step := fun _ _ => by kernel_rfl

theorem o_slices_IndexFunc_Sint_int : LoopsOK E_slices_IndexFunc_Sint_int tt Z_slices_IndexFunc_Sint_int O_slices_IndexFunc_Sint_int C_slices_IndexFunc_Sint_int := by
  have h : loopsOf C_slices_IndexFunc_Sint_int = [(0, B_slices_IndexFunc_Sint_int_0)] := by kernel_rfl
  unfold LoopsOK
  rw [h]
  exact List.forall_mem_cons.2 ⟨fun d h => (by have e : some (DL_slices_IndexFunc_Sint_int_0) = some d := h; cases e; exact l_slices_IndexFunc_Sint_int_0), fun _ h => absurd h List.not_mem_nil⟩

theorem ok_slices_IndexFunc_Sint_int : FnOK prog E_slices_IndexFunc_Sint_int tt 170 D_slices_IndexFunc_Sint_int K_slices_IndexFunc_Sint_int Z_slices_IndexFunc_Sint_int O_slices_IndexFunc_Sint_int f170 C_slices_IndexFunc_Sint_int (fun x => T_slices_IndexFunc_Sint_int x.1.1 x.1.2.1) (fun r => ((r, ()), ())) where
  at_ := func170
  name := by kernel_rfl
  body := by kernel_rfl
  res := by kernel_rfl
  ok := by kernel_rfl
  arity := fun _ => Nat.le_of_ble_eq_true (by kernel_rfl)
  pin := fun _ => by kernel_rfl
  chk := by kernel_rfl
  loops := o_slices_IndexFunc_Sint_int
  run := e_slices_IndexFunc_Sint_int
  F := fun _ => rfl
  emb := fun _ => rfl

theorem fd_slices_IndexFunc_Sint_int : FDok prog (170, D_slices_IndexFunc_Sint_int) := fn_ok mixed (env_ok (fun _ h => absurd h List.not_mem_nil)) tabOK ok_slices_IndexFunc_Sint_int

theorem e_slices_ContainsFunc_Sint_int : ∀ x : D_slices_ContainsFunc_Sint_int.T, ((acode E_slices_ContainsFunc_Sint_int tt Z_slices_ContainsFunc_Sint_int (orcOf O_slices_ContainsFunc_Sint_int) C_slices_ContainsFunc_Sint_int (entry A_slices_ContainsFunc_Sint_int I_slices_ContainsFunc_Sint_int x)).map (keepRet tt K_slices_ContainsFunc_Sint_int)).ev = ((T_slices_ContainsFunc_Sint_int x.1.1 x.1.2.1).map fun r => some ((((r, ()), ())) : K_slices_ContainsFunc_Sint_int.T)).ev := fun _ => by kernel_rfl

theorem o_slices_ContainsFunc_Sint_int : LoopsOK E_slices_ContainsFunc_Sint_int tt Z_slices_ContainsFunc_Sint_int O_slices_ContainsFunc_Sint_int C_slices_ContainsFunc_Sint_int := by
  have h : loopsOf C_slices_ContainsFunc_Sint_int = [] := by kernel_rfl
  unfold LoopsOK
  rw [h]
  exact fun _ h => absurd h List.not_mem_nil

theorem ok_slices_ContainsFunc_Sint_int : FnOK prog E_slices_ContainsFunc_Sint_int tt 125 D_slices_ContainsFunc_Sint_int K_slices_ContainsFunc_Sint_int Z_slices_ContainsFunc_Sint_int O_slices_ContainsFunc_Sint_int f125 C_slices_ContainsFunc_Sint_int (fun x => T_slices_ContainsFunc_Sint_int x.1.1 x.1.2.1) (fun r => ((r, ()), ())) where
  at_ := func125
  name := by kernel_rfl
  body := by kernel_rfl
  res := by kernel_rfl
  ok := by kernel_rfl
  arity := fun _ => Nat.le_of_ble_eq_true (by kernel_rfl)
  pin := fun _ => by kernel_rfl
  chk := by kernel_rfl
  loops := o_slices_ContainsFunc_Sint_int
  run := e_slices_ContainsFunc_Sint_int
  F := fun _ => rfl
  emb := fun _ => rfl

theorem fd_slices_ContainsFunc_Sint_int : FDok prog (125, D_slices_ContainsFunc_Sint_int) := fn_ok mixed (env_ok (List.forall_mem_cons.2 ⟨fd_slices_IndexFunc_Sint_int, fun _ h => absurd h List.not_mem_nil⟩)) tabOK ok_slices_ContainsFunc_Sint_int

theorem e_im_areBetween_1 : ∀ x : D_im_areBetween_1.T, ((acode E_im_areBetween_1 tt Z_im_areBetween_1 (orcOf O_im_areBetween_1) C_im_areBetween_1 (entry A_im_areBetween_1 I_im_areBetween_1 x)).map (keepRet tt K_im_areBetween_1)).ev = ((T_im_areBetween_1 x.1.1 x.1.2.1.1 x.1.2.2.1.1).map fun r => some ((((r, ()), ())) : K_im_areBetween_1.T)).ev := fun _ => by kernel_rfl

theorem o_im_areBetween_1 : LoopsOK E_im_areBetween_1 tt Z_im_areBetween_1 O_im_areBetween_1 C_im_areBetween_1 := by
  have h : loopsOf C_im_areBetween_1 = [] := by kernel_rfl
  unfold LoopsOK
  rw [h]
  exact fun _ h => absurd h List.not_mem_nil

theorem ok_im_areBetween_1 : FnOK prog E_im_areBetween_1 tt 177 D_im_areBetween_1 K_im_areBetween_1 Z_im_areBetween_1 O_im_areBetween_1 f177 C_im_areBetween_1 (fun x => T_im_areBetween_1 x.1.1 x.1.2.1.1 x.1.2.2.1.1) (fun r => ((r, ()), ())) where
  at_ := func177
  name := by kernel_rfl
  body := by kernel_rfl
  res := by kernel_rfl
  ok := by kernel_rfl
  arity := fun _ => Nat.le_of_ble_eq_true (by kernel_rfl)
  pin := fun _ => by kernel_rfl
  chk := by kernel_rfl
  loops := o_im_areBetween_1
  run := e_im_areBetween_1
  F := fun _ => rfl
  emb := fun _ => rfl

theorem fd_im_areBetween_1 : FDok prog (177, D_im_areBetween_1) := fn_ok mixed (env_ok (List.forall_mem_cons.2 ⟨fd_im_between, fun _ h => absurd h List.not_mem_nil⟩)) tabOK ok_im_areBetween_1

theorem e_im_areBetween : ∀ x : D_im_areBetween.T, ((acode E_im_areBetween tt Z_im_areBetween (orcOf O_im_areBetween) C_im_areBetween (entry A_im_areBetween I_im_areBetween x)).map (keepRet tt K_im_areBetween)).ev = ((T_im_areBetween x.1.1 x.1.2.1 x.1.2.2.1).map fun r => some ((((r, ()), ())) : K_im_areBetween.T)).ev := fun _ => by kernel_rfl

theorem o_im_areBetween : LoopsOK E_im_areBetween tt Z_im_areBetween O_im_areBetween C_im_areBetween := by
  have h : loopsOf C_im_areBetween = [] := by kernel_rfl
  unfold LoopsOK
  rw [h]
  exact fun _ h => absurd h List.not_mem_nil

theorem ok_im_areBetween : FnOK prog E_im_areBetween tt 136 D_im_areBetween K_im_areBetween Z_im_areBetween O_im_areBetween f136 C_im_areBetween (fun x => T_im_areBetween x.1.1 x.1.2.1 x.1.2.2.1) (fun r => ((r, ()), ())) where
  at_ := func136
  name := by kernel_rfl
  body := by kernel_rfl
  res := by kernel_rfl
  ok := by kernel_rfl
  arity := fun _ => Nat.le_of_ble_eq_true (by kernel_rfl)
  pin := fun _ => by kernel_rfl
  chk := by kernel_rfl
  loops := o_im_areBetween
  run := e_im_areBetween
  F := fun _ => rfl
  emb := fun _ => rfl

theorem fd_im_areBetween : FDok prog (136, D_im_areBetween) := fn_ok mixed (env_ok (List.forall_mem_cons.2 ⟨fd_slices_ContainsFunc_Sint_int, List.forall_mem_cons.2 ⟨fd_im_areBetween_1, fun _ h => absurd h List.not_mem_nil⟩⟩)) tabOK ok_im_areBetween

theorem e_slices_IndexFunc_SSint_Sint : ∀ x : D_slices_IndexFunc_SSint_Sint.T, ((acode E_slices_IndexFunc_SSint_Sint tt Z_slices_IndexFunc_SSint_Sint (orcOf O_slices_IndexFunc_SSint_Sint) C_slices_IndexFunc_SSint_Sint (entry A_slices_IndexFunc_SSint_Sint I_slices_IndexFunc_SSint_Sint x)).map (keepRet tt K_slices_IndexFunc_SSint_Sint)).ev = ((T_slices_IndexFunc_SSint_Sint x.1.1 x.1.2.1).map fun r => some ((((r, ()), ())) : K_slices_IndexFunc_SSint_Sint.T)).ev := fun _ => by kernel_rfl

noncomputable def B_slices_IndexFunc_SSint_Sint_0 : Code := ((loopsOf C_slices_IndexFunc_SSint_Sint).find? fun p => Nat.beq p.1 0).elim .skip (·.2)
theorem l_slices_IndexFunc_SSint_Sint_0 : (DL_slices_IndexFunc_SSint_Sint_0).OK E_slices_IndexFunc_SSint_Sint tt Z_slices_IndexFunc_SSint_Sint (orcOf O_slices_IndexFunc_SSint_Sint) B_slices_IndexFunc_SSint_Sint_0 where
  ok := by kernel_rfl
  oke := by kernel_rfl
  okr := by kernel_rfl
  eta := fun _ => rfl
  step := fun _ _ => by kernel_rfl

theorem o_slices_IndexFunc_SSint_Sint : LoopsOK E_slices_IndexFunc_SSint_Sint tt Z_slices_IndexFunc_SSint_Sint O_slices_IndexFunc_SSint_Sint C_slices_IndexFunc_SSint_Sint := by
  have h : loopsOf C_slices_IndexFunc_SSint_Sint = [(0, B_slices_IndexFunc_SSint_Sint_0)] := by kernel_rfl
  unfold LoopsOK
  rw [h]
  exact List.forall_mem_cons.2 ⟨fun d h => (by have e : some (DL_slices_IndexFunc_SSint_Sint_0) = some d := h; cases e; exact l_slices_IndexFunc_SSint_Sint_0), fun _ h => absurd h List.not_mem_nil⟩

theorem ok_slices_IndexFunc_SSint_Sint : FnOK prog E_slices_IndexFunc_SSint_Sint tt 74 D_slices_IndexFunc_SSint_Sint K_slices_IndexFunc_SSint_Sint Z_slices_IndexFunc_SSint_Sint O_slices_IndexFunc_SSint_Sint f74 C_slices_IndexFunc_SSint_Sint (fun x => T_slices_IndexFunc_SSint_Sint x.1.1 x.1.2.1) (fun r => ((r, ()), ())) where
  at_ := func74
  name := by kernel_rfl
  body := by kernel_rfl
  res := by kernel_rfl
  ok := by kernel_rfl
  arity := fun _ => Nat.le_of_ble_eq_true (by kernel_rfl)
  pin := fun _ => by kernel_rfl
  chk := by kernel_rfl
  loops := o_slices_IndexFunc_SSint_Sint
  run := e_slices_IndexFunc_SSint_Sint
  F := fun _ => rfl
  emb := fun _ => rfl

theorem fd_slices_IndexFunc_SSint_Sint : FDok prog (74, D_slices_IndexFunc_SSint_Sint) := fn_ok mixed (env_ok (fun _ h => absurd h List.not_mem_nil)) tabOK ok_slices_IndexFunc_SSint_Sint

theorem e_slices_ContainsFunc_SSint_Sint : ∀ x : D_slices_ContainsFunc_SSint_Sint.T, ((acode E_slices_ContainsFunc_SSint_Sint tt Z_slices_ContainsFunc_SSint_Sint (orcOf O_slices_ContainsFunc_SSint_Sint) C_slices_ContainsFunc_SSint_Sint (entry A_slices_ContainsFunc_SSint_Sint I_slices_ContainsFunc_SSint_Sint x)).map (keepRet tt K_slices_ContainsFunc_SSint_Sint)).ev = ((T_slices_ContainsFunc_SSint_Sint x.1.1 x.1.2.1).map fun r => some ((((r, ()), ())) : K_slices_ContainsFunc_SSint_Sint.T)).ev := fun _ => by kernel_rfl

theorem o_slices_ContainsFunc_SSint_Sint : LoopsOK E_slices_ContainsFunc_SSint_Sint tt Z_slices_ContainsFunc_SSint_Sint O_slices_ContainsFunc_SSint_Sint C_slices_ContainsFunc_SSint_Sint := by
  have h : loopsOf C_slices_ContainsFunc_SSint_Sint = [] := by kernel_rfl
  unfold LoopsOK
  rw [h]
  exact fun _ h => absurd h List.not_mem_nil

theorem ok_slices_ContainsFunc_SSint_Sint : FnOK prog E_slices_ContainsFunc_SSint_Sint tt 141 D_slices_ContainsFunc_SSint_Sint K_slices_ContainsFunc_SSint_Sint Z_slices_ContainsFunc_SSint_Sint O_slices_ContainsFunc_SSint_Sint f141 C_slices_ContainsFunc_SSint_Sint (fun x => T_slices_ContainsFunc_SSint_Sint x.1.1 x.1.2.1) (fun r => ((r, ()), ())) where
  at_ := func141
  name := by kernel_rfl
  body := by kernel_rfl
  res := by kernel_rfl
  ok := by kernel_rfl
  arity := fun _ => Nat.le_of_ble_eq_true (by kernel_rfl)
  pin := fun _ => by kernel_rfl
  chk := by kernel_rfl
  loops := o_slices_ContainsFunc_SSint_Sint
  run := e_slices_ContainsFunc_SSint_Sint
  F := fun _ => rfl
  emb := fun _ => rfl

theorem fd_slices_ContainsFunc_SSint_Sint : FDok prog (141, D_slices_ContainsFunc_SSint_Sint) := fn_ok mixed (env_ok (List.forall_mem_cons.2 ⟨fd_slices_IndexFunc_SSint_Sint, fun _ h => absurd h List.not_mem_nil⟩)) tabOK ok_slices_ContainsFunc_SSint_Sint

theorem e_im_IsField_1 : ∀ x : D_im_IsField_1.T, ((acode E_im_IsField_1 tt Z_im_IsField_1 (orcOf O_im_IsField_1) C_im_IsField_1 (entry A_im_IsField_1 I_im_IsField_1 x)).map (keepRet tt K_im_IsField_1)).ev = ((T_im_IsField_1 x.1.1 x.1.2.1.1 x.1.2.1.2.1).map fun r => some ((((r, ()), ())) : K_im_IsField_1.T)).ev := fun _ => by kernel_rfl

theorem o_im_IsField_1 : LoopsOK E_im_IsField_1 tt Z_im_IsField_1 O_im_IsField_1 C_im_IsField_1 := by
  have h : loopsOf C_im_IsField_1 = [] := by kernel_rfl
  unfold LoopsOK
  rw [h]
  exact fun _ h => absurd h List.not_mem_nil

theorem ok_im_IsField_1 : FnOK prog E_im_IsField_1 tt 142 D_im_IsField_1 K_im_IsField_1 Z_im_IsField_1 O_im_IsField_1 f142 C_im_IsField_1 (fun x => T_im_IsField_1 x.1.1 x.1.2.1.1 x.1.2.1.2.1) (fun r => ((r, ()), ())) where
  at_ := func142
  name := by kernel_rfl
  body := by kernel_rfl
  res := by kernel_rfl
  ok := by kernel_rfl
  arity := fun _ => Nat.le_of_ble_eq_true (by kernel_rfl)
  pin := fun _ => by kernel_rfl
  chk := by kernel_rfl
  loops := o_im_IsField_1
  run := e_im_IsField_1
  F := fun _ => rfl
  emb := fun _ => rfl

theorem fd_im_IsField_1 : FDok prog (142, D_im_IsField_1) := fn_ok mixed (env_ok (List.forall_mem_cons.2 ⟨fd_im_areBetween, fun _ h => absurd h List.not_mem_nil⟩)) tabOK ok_im_IsField_1

theorem e_im_IsField : ∀ x : D_im_IsField.T, ((acode E_im_IsField tt Z_im_IsField (orcOf O_im_IsField) C_im_IsField (entry A_im_IsField I_im_IsField x)).map (keepRet tt K_im_IsField)).ev = ((T_im_IsField x.1.1.1 x.1.1.2.1).map fun r => some ((((r, ()), ())) : K_im_IsField.T)).ev := fun _ => by kernel_rfl

theorem o_im_IsField : LoopsOK E_im_IsField tt Z_im_IsField O_im_IsField C_im_IsField := by
  have h : loopsOf C_im_IsField = [] := by kernel_rfl
  unfold LoopsOK
  rw [h]
  exact fun _ h => absurd h List.not_mem_nil

theorem ok_im_IsField : FnOK prog E_im_IsField tt 79 D_im_IsField K_im_IsField Z_im_IsField O_im_IsField f79 C_im_IsField (fun x => T_im_IsField x.1.1.1 x.1.1.2.1) (fun r => ((r, ()), ())) where
  at_ := func79
  name := by kernel_rfl
  body := by kernel_rfl
  res := by kernel_rfl
  ok := by kernel_rfl
  arity := fun _ => Nat.le_of_ble_eq_true (by kernel_rfl)
  pin := fun _ => by kernel_rfl
  chk := by kernel_rfl
  loops := o_im_IsField
  run := e_im_IsField
  F := fun _ => rfl
  emb := fun _ => rfl

theorem fd_im_IsField : FDok prog (79, D_im_IsField) := fn_ok mixed (env_ok (List.forall_mem_cons.2 ⟨fd_im_between, List.forall_mem_cons.2 ⟨fd_im_areBetween, List.forall_mem_cons.2 ⟨fd_slices_ContainsFunc_SSint_Sint, List.forall_mem_cons.2 ⟨fd_im_IsField_1, fun _ h => absurd h List.not_mem_nil⟩⟩⟩⟩)) tabOK ok_im_IsField

theorem e_im_isRising : ∀ x : D_im_isRising.T, ((acode E_im_isRising tt Z_im_isRising (orcOf O_im_isRising) C_im_isRising (entry A_im_isRising I_im_isRising x)).map (keepRet tt K_im_isRising)).ev = ((T_im_isRising x.1.1 x.1.2.1).map fun r => some ((((r, ()), ())) : K_im_isRising.T)).ev := fun _ => by kernel_rfl

noncomputable def B_im_isRising_0 : Code := ((loopsOf C_im_isRising).find? fun p => Nat.beq p.1 0).elim .skip (·.2)
theorem l_im_isRising_0 : (DL_im_isRising_0).OK E_im_isRising tt Z_im_isRising (orcOf O_im_isRising) B_im_isRising_0 where
  ok := by kernel_rfl
  oke := by kernel_rfl
  okr := by kernel_rfl
  eta := fun _ => rfl
  step := fun _ _ => by kernel_rfl

theorem o_im_isRising : LoopsOK E_im_isRising tt Z_im_isRising O_im_isRising C_im_isRising := by
  have h : loopsOf C_im_isRising = [(0, B_im_isRising_0)] := by kernel_rfl
  unfold LoopsOK
  rw [h]
  exact List.forall_mem_cons.2 ⟨fun d h => (by have e : some (DL_im_isRising_0) = some d := h; cases e; exact l_im_isRising_0), fun _ h => absurd h List.not_mem_nil⟩

theorem ok_im_isRising : FnOK prog E_im_isRising tt 146 D_im_isRising K_im_isRising Z_im_isRising O_im_isRising f146 C_im_isRising (fun x => T_im_isRising x.1.1 x.1.2.1) (fun r => ((r, ()), ())) where
  at_ := func146
  name := by kernel_rfl
  body := by kernel_rfl
  res := by kernel_rfl
  ok := by kernel_rfl
  arity := fun _ => Nat.le_of_ble_eq_true (by kernel_rfl)
  pin := fun _ => by kernel_rfl
  chk := by kernel_rfl
  loops := o_im_isRising
  run := e_im_isRising
  F := fun _ => rfl
  emb := fun _ => rfl

theorem fd_im_isRising : FDok prog (146, D_im_isRising) := fn_ok mixed (env_ok (List.forall_mem_cons.2 ⟨fd_im_between, fun _ h => absurd h List.not_mem_nil⟩)) tabOK ok_im_isRising

theorem e_im_IsAtlas : ∀ x : D_im_IsAtlas.T, ((acode E_im_IsAtlas tt Z_im_IsAtlas (orcOf O_im_IsAtlas) C_im_IsAtlas (entry A_im_IsAtlas I_im_IsAtlas x)).map (keepRet tt K_im_IsAtlas)).ev = ((T_im_IsAtlas x.1.1.1 x.1.1.2.1 x.1.1.2.2.1 x.1.1.2.2.2.1).map fun r => some ((((r, ()), ())) : K_im_IsAtlas.T)).ev := fun _ => by kernel_rfl

theorem o_im_IsAtlas : LoopsOK E_im_IsAtlas tt Z_im_IsAtlas O_im_IsAtlas C_im_IsAtlas := by
  have h : loopsOf C_im_IsAtlas = [] := by kernel_rfl
  unfold LoopsOK
  rw [h]
  exact fun _ h => absurd h List.not_mem_nil

theorem ok_im_IsAtlas : FnOK prog E_im_IsAtlas tt 83 D_im_IsAtlas K_im_IsAtlas Z_im_IsAtlas O_im_IsAtlas f83 C_im_IsAtlas (fun x => T_im_IsAtlas x.1.1.1 x.1.1.2.1 x.1.1.2.2.1 x.1.1.2.2.2.1) (fun r => ((r, ()), ())) where
  at_ := func83
  name := by kernel_rfl
  body := by kernel_rfl
  res := by kernel_rfl
  ok := by kernel_rfl
  arity := fun _ => Nat.le_of_ble_eq_true (by kernel_rfl)
  pin := fun _ => by kernel_rfl
  chk := by kernel_rfl
  loops := o_im_IsAtlas
  run := e_im_IsAtlas
  F := fun _ => rfl
  emb := fun _ => rfl

theorem fd_im_IsAtlas : FDok prog (83, D_im_IsAtlas) := fn_ok mixed (env_ok (List.forall_mem_cons.2 ⟨fd_im_IsField, List.forall_mem_cons.2 ⟨fd_im_isRising, List.forall_mem_cons.2 ⟨fd_im_between, fun _ h => absurd h List.not_mem_nil⟩⟩⟩)) tabOK ok_im_IsAtlas

theorem e_im_Field_isSet : ∀ x : D_im_Field_isSet.T, ((acode E_im_Field_isSet tt Z_im_Field_isSet (orcOf O_im_Field_isSet) C_im_Field_isSet (entry A_im_Field_isSet I_im_Field_isSet x)).map (keepRet tt K_im_Field_isSet)).ev = ((T_im_Field_isSet x.1.1.1 x.1.1.2.1 x.1.2.1).map fun r => some ((((r, ()), ())) : K_im_Field_isSet.T)).ev := fun _ => by kernel_rfl

theorem o_im_Field_isSet : LoopsOK E_im_Field_isSet tt Z_im_Field_isSet O_im_Field_isSet C_im_Field_isSet := by
  have h : loopsOf C_im_Field_isSet = [] := by kernel_rfl
  unfold LoopsOK
  rw [h]
  exact fun _ h => absurd h List.not_mem_nil

theorem ok_im_Field_isSet : FnOK prog E_im_Field_isSet tt 149 D_im_Field_isSet K_im_Field_isSet Z_im_Field_isSet O_im_Field_isSet f149 C_im_Field_isSet (fun x => T_im_Field_isSet x.1.1.1 x.1.1.2.1 x.1.2.1) (fun r => ((r, ()), ())) where
  at_ := func149
  name := by kernel_rfl
  body := by kernel_rfl
  res := by kernel_rfl
  ok := by kernel_rfl
  arity := fun _ => Nat.le_of_ble_eq_true (by kernel_rfl)
  pin := fun _ => by kernel_rfl
  chk := by kernel_rfl
  loops := o_im_Field_isSet
  run := e_im_Field_isSet
  F := fun _ => rfl
  emb := fun _ => rfl

theorem fd_im_Field_isSet : FDok prog (149, D_im_Field_isSet) := fn_ok mixed (env_ok (List.forall_mem_cons.2 ⟨fd_im_isRising, fun _ h => absurd h List.not_mem_nil⟩)) tabOK ok_im_Field_isSet

theorem e_im_isOpened : ∀ x : D_im_isOpened.T, ((acode E_im_isOpened tt Z_im_isOpened (orcOf O_im_isOpened) C_im_isOpened (entry A_im_isOpened I_im_isOpened x)).map (keepRet tt K_im_isOpened)).ev = ((T_im_isOpened x.1.1.1 x.1.1.2.1 x.1.2.1).map fun r => some ((((r, ()), ())) : K_im_isOpened.T)).ev := fun _ => by kernel_rfl

theorem o_im_isOpened : LoopsOK E_im_isOpened tt Z_im_isOpened O_im_isOpened C_im_isOpened := by
  have h : loopsOf C_im_isOpened = [] := by kernel_rfl
  unfold LoopsOK
  rw [h]
  exact fun _ h => absurd h List.not_mem_nil

theorem ok_im_isOpened : FnOK prog E_im_isOpened tt 88 D_im_isOpened K_im_isOpened Z_im_isOpened O_im_isOpened f88 C_im_isOpened (fun x => T_im_isOpened x.1.1.1 x.1.1.2.1 x.1.2.1) (fun r => ((r, ()), ())) where
  at_ := func88
  name := by kernel_rfl
  body := by kernel_rfl
  res := by kernel_rfl
  ok := by kernel_rfl
  arity := fun _ => Nat.le_of_ble_eq_true (by kernel_rfl)
  pin := fun _ => by kernel_rfl
  chk := by kernel_rfl
  loops := o_im_isOpened
  run := e_im_isOpened
  F := fun _ => rfl
  emb := fun _ => rfl

theorem fd_im_isOpened : FDok prog (88, D_im_isOpened) := fn_ok mixed (env_ok (List.forall_mem_cons.2 ⟨fd_im_IsField, List.forall_mem_cons.2 ⟨fd_im_Field_isSet, fun _ h => absurd h List.not_mem_nil⟩⟩)) tabOK ok_im_isOpened

theorem e_im_Field_payment : ∀ x : D_im_Field_payment.T, ((acode E_im_Field_payment tt Z_im_Field_payment (orcOf O_im_Field_payment) C_im_Field_payment (entry A_im_Field_payment I_im_Field_payment x)).map (keepRet tt K_im_Field_payment)).ev = ((T_im_Field_payment x.1.1.1 x.1.1.2.1 x.1.2.1).map fun r => some ((((r, ()), ())) : K_im_Field_payment.T)).ev := fun _ => by kernel_rfl

noncomputable def B_im_Field_payment_0 : Code := ((loopsOf C_im_Field_payment).find? fun p => Nat.beq p.1 0).elim .skip (·.2)
theorem l_im_Field_payment_0 : (DL_im_Field_payment_0).OK E_im_Field_payment tt Z_im_Field_payment (orcOf O_im_Field_payment) B_im_Field_payment_0 where
  ok := by kernel_rfl
  oke := by kernel_rfl
  okr := by kernel_rfl
  eta := fun _ => rfl
  step := fun _ _ => by kernel_rfl

theorem o_im_Field_payment : LoopsOK E_im_Field_payment tt Z_im_Field_payment O_im_Field_payment C_im_Field_payment := by
  have h : loopsOf C_im_Field_payment = [(0, B_im_Field_payment_0)] := by kernel_rfl
  unfold LoopsOK
  rw [h]
  exact List.forall_mem_cons.2 ⟨fun d h => (by have e : some (DL_im_Field_payment_0) = some d := h; cases e; exact l_im_Field_payment_0), fun _ h => absurd h List.not_mem_nil⟩

theorem ok_im_Field_payment : FnOK prog E_im_Field_payment tt 151 D_im_Field_payment K_im_Field_payment Z_im_Field_payment O_im_Field_payment f151 C_im_Field_payment (fun x => T_im_Field_payment x.1.1.1 x.1.1.2.1 x.1.2.1) (fun r => ((r, ()), ())) where
  at_ := func151
  name := by kernel_rfl
  body := by kernel_rfl
  res := by kernel_rfl
  ok := by kernel_rfl
  arity := fun _ => Nat.le_of_ble_eq_true (by kernel_rfl)
  pin := fun _ => by kernel_rfl
  chk := by kernel_rfl
  loops := o_im_Field_payment
  run := e_im_Field_payment
  F := fun _ => rfl
  emb := fun _ => rfl

theorem fd_im_Field_payment : FDok prog (151, D_im_Field_payment) := fn_ok mixed (env_ok (fun _ h => absurd h List.not_mem_nil)) tabOK ok_im_Field_payment

theorem e_im_Field_server : ∀ x : D_im_Field_server.T, ((acode E_im_Field_server tt Z_im_Field_server (orcOf O_im_Field_server) C_im_Field_server (entry A_im_Field_server I_im_Field_server x)).map (keepRet tt K_im_Field_server)).ev = ((T_im_Field_server x.1.1.1 x.1.1.2.1 x.1.2.1 x.1.2.2.1).map fun r => some ((((r, ()), ())) : K_im_Field_server.T)).ev := fun _ => by kernel_rfl

noncomputable def B_im_Field_server_0 : Code := ((loopsOf C_im_Field_server).find? fun p => Nat.beq p.1 0).elim .skip (·.2)
theorem l_im_Field_server_0 : (DL_im_Field_server_0).OK E_im_Field_server tt Z_im_Field_server (orcOf O_im_Field_server) B_im_Field_server_0 where
  ok := by kernel_rfl
  oke := by kernel_rfl
  okr := by kernel_rfl
  eta := fun _ => rfl
  step := fun _ _ => by kernel_rfl

theorem o_im_Field_server : LoopsOK E_im_Field_server tt Z_im_Field_server O_im_Field_server C_im_Field_server := by
  have h : loopsOf C_im_Field_server = [(0, B_im_Field_server_0)] := by kernel_rfl
  unfold LoopsOK
  rw [h]
  exact List.forall_mem_cons.2 ⟨fun d h => (by have e : some (DL_im_Field_server_0) = some d := h; cases e; exact l_im_Field_server_0), fun _ h => absurd h List.not_mem_nil⟩

theorem ok_im_Field_server : FnOK prog E_im_Field_server tt 194 D_im_Field_server K_im_Field_server Z_im_Field_server O_im_Field_server f194 C_im_Field_server (fun x => T_im_Field_server x.1.1.1 x.1.1.2.1 x.1.2.1 x.1.2.2.1) (fun r => ((r, ()), ())) where
  at_ := func194
  name := by kernel_rfl
  body := by kernel_rfl
  res := by kernel_rfl
  ok := by kernel_rfl
  arity := fun _ => Nat.le_of_ble_eq_true (by kernel_rfl)
  pin := fun _ => by kernel_rfl
  chk := by kernel_rfl
  loops := o_im_Field_server
  run := e_im_Field_server
  F := fun _ => rfl
  emb := fun _ => rfl

theorem fd_im_Field_server : FDok prog (194, D_im_Field_server) := fn_ok mixed (env_ok (fun _ h => absurd h List.not_mem_nil)) tabOK ok_im_Field_server

theorem e_im_Field_served : ∀ x : D_im_Field_served.T, ((acode E_im_Field_served tt Z_im_Field_served (orcOf O_im_Field_served) C_im_Field_served (entry A_im_Field_served I_im_Field_served x)).map (keepRet tt K_im_Field_served)).ev = ((T_im_Field_served x.1.1.1 x.1.1.2.1 x.1.2.1).map fun r => some (((((), ()), (r, ()))) : K_im_Field_served.T)).ev := fun _ => by kernel_rfl

noncomputable def B_im_Field_served_0 : Code := ((loopsOf C_im_Field_served).find? fun p => Nat.beq p.1 0).elim .skip (·.2)
theorem l_im_Field_served_0 : (DL_im_Field_served_0).OK E_im_Field_served tt Z_im_Field_served (orcOf O_im_Field_served) B_im_Field_served_0 where
  ok := by kernel_rfl
  oke := by kernel_rfl
  okr := by kernel_rfl
  eta := fun _ => rfl
  step := fun _ _ => by kernel_rfl

theorem o_im_Field_served : LoopsOK E_im_Field_served tt Z_im_Field_served O_im_Field_served C_im_Field_served := by
  have h : loopsOf C_im_Field_served = [(0, B_im_Field_served_0)] := by kernel_rfl
  unfold LoopsOK
  rw [h]
  exact List.forall_mem_cons.2 ⟨fun d h => (by have e : some (DL_im_Field_served_0) = some d := h; cases e; exact l_im_Field_served_0), fun _ h => absurd h List.not_mem_nil⟩

theorem ok_im_Field_served : FnOK prog E_im_Field_served tt 186 D_im_Field_served K_im_Field_served Z_im_Field_served O_im_Field_served f186 C_im_Field_served (fun x => T_im_Field_served x.1.1.1 x.1.1.2.1 x.1.2.1) (fun r => (((), ()), (r, ()))) where
  at_ := func186
  name := by kernel_rfl
  body := by kernel_rfl
  res := by kernel_rfl
  ok := by kernel_rfl
  arity := fun _ => Nat.le_of_ble_eq_true (by kernel_rfl)
  pin := fun _ => by kernel_rfl
  chk := by kernel_rfl
  loops := o_im_Field_served
  run := e_im_Field_served
  F := fun _ => rfl
  emb := fun _ => rfl

theorem fd_im_Field_served : FDok prog (186, D_im_Field_served) := fn_ok mixed (env_ok (List.forall_mem_cons.2 ⟨fd_im_Field_server, fun _ h => absurd h List.not_mem_nil⟩)) tabOK ok_im_Field_served

theorem e_im_Field_lengths : ∀ x : D_im_Field_lengths.T, ((acode E_im_Field_lengths tt Z_im_Field_lengths (orcOf O_im_Field_lengths) C_im_Field_lengths (entry A_im_Field_lengths I_im_Field_lengths x)).map (keepRet tt K_im_Field_lengths)).ev = ((T_im_Field_lengths x.1.1.1 x.1.1.2.1 x.1.2.1).map fun r => some (((((), ()), (r, ()))) : K_im_Field_lengths.T)).ev := fun _ => by kernel_rfl

noncomputable def B_im_Field_lengths_0 : Code := ((loopsOf C_im_Field_lengths).find? fun p => Nat.beq p.1 0).elim .skip (·.2)
theorem l_im_Field_lengths_0 : (DL_im_Field_lengths_0).OK E_im_Field_lengths tt Z_im_Field_lengths (orcOf O_im_Field_lengths) B_im_Field_lengths_0 where
  ok := by kernel_rfl
  oke := by kernel_rfl
  okr := by kernel_rfl
  eta := fun _ => rfl
  step := fun _ _ => by kernel_rfl

theorem o_im_Field_lengths : LoopsOK E_im_Field_lengths tt Z_im_Field_lengths O_im_Field_lengths C_im_Field_lengths := by
  have h : loopsOf C_im_Field_lengths = [(0, B_im_Field_lengths_0)] := by kernel_rfl
  unfold LoopsOK
  rw [h]
  exact List.forall_mem_cons.2 ⟨fun d h => (by have e : some (DL_im_Field_lengths_0) = some d := h; cases e; exact l_im_Field_lengths_0), fun _ h => absurd h List.not_mem_nil⟩

theorem ok_im_Field_lengths : FnOK prog E_im_Field_lengths tt 165 D_im_Field_lengths K_im_Field_lengths Z_im_Field_lengths O_im_Field_lengths f165 C_im_Field_lengths (fun x => T_im_Field_lengths x.1.1.1 x.1.1.2.1 x.1.2.1) (fun r => (((), ()), (r, ()))) where
  at_ := func165
  name := by kernel_rfl
  body := by kernel_rfl
  res := by kernel_rfl
  ok := by kernel_rfl
  arity := fun _ => Nat.le_of_ble_eq_true (by kernel_rfl)
  pin := fun _ => by kernel_rfl
  chk := by kernel_rfl
  loops := o_im_Field_lengths
  run := e_im_Field_lengths
  F := fun _ => rfl
  emb := fun _ => rfl

theorem fd_im_Field_lengths : FDok prog (165, D_im_Field_lengths) := fn_ok mixed (env_ok (List.forall_mem_cons.2 ⟨fd_im_Field_served, fun _ h => absurd h List.not_mem_nil⟩)) tabOK ok_im_Field_lengths

theorem e_im_sum : ∀ x : D_im_sum.T, ((acode E_im_sum tt Z_im_sum (orcOf O_im_sum) C_im_sum (entry A_im_sum I_im_sum x)).map (keepRet tt K_im_sum)).ev = ((T_im_sum x.1.1).map fun r => some ((((r, ()), ())) : K_im_sum.T)).ev := fun _ => by kernel_rfl

noncomputable def B_im_sum_0 : Code := ((loopsOf C_im_sum).find? fun p => Nat.beq p.1 0).elim .skip (·.2)
theorem l_im_sum_0 : (DL_im_sum_0).OK E_im_sum tt Z_im_sum (orcOf O_im_sum) B_im_sum_0 where
  ok := by kernel_rfl
  oke := by kernel_rfl
  okr := by kernel_rfl
  eta := fun _ => rfl
  step := fun _ _ => by kernel_rfl

theorem o_im_sum : LoopsOK E_im_sum tt Z_im_sum O_im_sum C_im_sum := by
  have h : loopsOf C_im_sum = [(0, B_im_sum_0)] := by kernel_rfl
  unfold LoopsOK
  rw [h]
  exact List.forall_mem_cons.2 ⟨fun d h => (by have e : some (DL_im_sum_0) = some d := h; cases e; exact l_im_sum_0), fun _ h => absurd h List.not_mem_nil⟩

theorem ok_im_sum : FnOK prog E_im_sum tt 108 D_im_sum K_im_sum Z_im_sum O_im_sum f108 C_im_sum (fun x => T_im_sum x.1.1) (fun r => ((r, ()), ())) where
  at_ := func108
  name := by kernel_rfl
  body := by kernel_rfl
  res := by kernel_rfl
  ok := by kernel_rfl
  arity := fun _ => Nat.le_of_ble_eq_true (by kernel_rfl)
  pin := fun _ => by kernel_rfl
  chk := by kernel_rfl
  loops := o_im_sum
  run := e_im_sum
  F := fun _ => rfl
  emb := fun _ => rfl

theorem fd_im_sum : FDok prog (108, D_im_sum) := fn_ok mixed (env_ok (fun _ h => absurd h List.not_mem_nil)) tabOK ok_im_sum

theorem e_im_Field_service : ∀ x : D_im_Field_service.T, ((acode E_im_Field_service tt Z_im_Field_service (orcOf O_im_Field_service) C_im_Field_service (entry A_im_Field_service I_im_Field_service x)).map (keepRet tt K_im_Field_service)).ev = ((T_im_Field_service x.1.1.1 x.1.1.2.1 x.1.2.1).map fun r => some ((((r, ()), ())) : K_im_Field_service.T)).ev := fun _ => by kernel_rfl

theorem o_im_Field_service : LoopsOK E_im_Field_service tt Z_im_Field_service O_im_Field_service C_im_Field_service := by
  have h : loopsOf C_im_Field_service = [] := by kernel_rfl
  unfold LoopsOK
  rw [h]
  exact fun _ h => absurd h List.not_mem_nil

theorem ok_im_Field_service : FnOK prog E_im_Field_service tt 150 D_im_Field_service K_im_Field_service Z_im_Field_service O_im_Field_service f150 C_im_Field_service (fun x => T_im_Field_service x.1.1.1 x.1.1.2.1 x.1.2.1) (fun r => ((r, ()), ())) where
  at_ := func150
  name := by kernel_rfl
  body := by kernel_rfl
  res := by kernel_rfl
  ok := by kernel_rfl
  arity := fun _ => Nat.le_of_ble_eq_true (by kernel_rfl)
  pin := fun _ => by kernel_rfl
  chk := by kernel_rfl
  loops := o_im_Field_service
  run := e_im_Field_service
  F := fun _ => rfl
  emb := fun _ => rfl

theorem fd_im_Field_service : FDok prog (150, D_im_Field_service) := fn_ok mixed (env_ok (List.forall_mem_cons.2 ⟨fd_im_Field_lengths, List.forall_mem_cons.2 ⟨fd_im_sum, fun _ h => absurd h List.not_mem_nil⟩⟩)) tabOK ok_im_Field_service

theorem e_im_Field_total : ∀ x : D_im_Field_total.T, ((acode E_im_Field_total tt Z_im_Field_total (orcOf O_im_Field_total) C_im_Field_total (entry A_im_Field_total I_im_Field_total x)).map (keepRet tt K_im_Field_total)).ev = ((T_im_Field_total x.1.1.1 x.1.1.2.1 x.1.2.1).map fun r => some ((((r, ()), ())) : K_im_Field_total.T)).ev := fun _ => by kernel_rfl

theorem o_im_Field_total : LoopsOK E_im_Field_total tt Z_im_Field_total O_im_Field_total C_im_Field_total := by
  have h : loopsOf C_im_Field_total = [] := by kernel_rfl
  unfold LoopsOK
  rw [h]
  exact fun _ h => absurd h List.not_mem_nil

theorem ok_im_Field_total : FnOK prog E_im_Field_total tt 147 D_im_Field_total K_im_Field_total Z_im_Field_total O_im_Field_total f147 C_im_Field_total (fun x => T_im_Field_total x.1.1.1 x.1.1.2.1 x.1.2.1) (fun r => ((r, ()), ())) where
  at_ := func147
  name := by kernel_rfl
  body := by kernel_rfl
  res := by kernel_rfl
  ok := by kernel_rfl
  arity := fun _ => Nat.le_of_ble_eq_true (by kernel_rfl)
  pin := fun _ => by kernel_rfl
  chk := by kernel_rfl
  loops := o_im_Field_total
  run := e_im_Field_total
  F := fun _ => rfl
  emb := fun _ => rfl

theorem fd_im_Field_total : FDok prog (147, D_im_Field_total) := fn_ok mixed (env_ok (List.forall_mem_cons.2 ⟨fd_im_Field_payment, List.forall_mem_cons.2 ⟨fd_im_Field_service, fun _ h => absurd h List.not_mem_nil⟩⟩)) tabOK ok_im_Field_total

theorem e_im_TotalOf : ∀ x : D_im_TotalOf.T, ((acode E_im_TotalOf tt Z_im_TotalOf (orcOf O_im_TotalOf) C_im_TotalOf (entry A_im_TotalOf I_im_TotalOf x)).map (keepRet tt K_im_TotalOf)).ev = ((T_im_TotalOf x.1.1.1 x.1.1.2.1 x.1.2.1).map fun r => some ((((r.1, (r.2, ())), ())) : K_im_TotalOf.T)).ev := fun _ => by kernel_rfl

theorem o_im_TotalOf : LoopsOK E_im_TotalOf tt Z_im_TotalOf O_im_TotalOf C_im_TotalOf := by
  have h : loopsOf C_im_TotalOf = [] := by kernel_rfl
  unfold LoopsOK
  rw [h]
  exact fun _ h => absurd h List.not_mem_nil

theorem ok_im_TotalOf : FnOK prog E_im_TotalOf tt 84 D_im_TotalOf K_im_TotalOf Z_im_TotalOf O_im_TotalOf f84 C_im_TotalOf (fun x => T_im_TotalOf x.1.1.1 x.1.1.2.1 x.1.2.1) (fun r => ((r.1, (r.2, ())), ())) where
  at_ := func84
  name := by kernel_rfl
  body := by kernel_rfl
  res := by kernel_rfl
  ok := by kernel_rfl
  arity := fun _ => Nat.le_of_ble_eq_true (by kernel_rfl)
  pin := fun _ => by kernel_rfl
  chk := by kernel_rfl
  loops := o_im_TotalOf
  run := e_im_TotalOf
  F := fun _ => rfl
  emb := fun _ => rfl

theorem fd_im_TotalOf : FDok prog (84, D_im_TotalOf) := fn_ok mixed (env_ok (List.forall_mem_cons.2 ⟨fd_im_isOpened, List.forall_mem_cons.2 ⟨fd_im_Field_total, fun _ h => absurd h List.not_mem_nil⟩⟩)) tabOK ok_im_TotalOf

theorem e_im_AtlasTotal : ∀ x : D_im_AtlasTotal.T, ((acode E_im_AtlasTotal tt Z_im_AtlasTotal (orcOf O_im_AtlasTotal) C_im_AtlasTotal (entry A_im_AtlasTotal I_im_AtlasTotal x)).map (keepRet tt K_im_AtlasTotal)).ev = ((T_im_AtlasTotal x.1.1.1 x.1.1.2.1 x.1.1.2.2.1 x.1.1.2.2.2.1).map fun r => some ((((r.1, (r.2, ())), ())) : K_im_AtlasTotal.T)).ev := fun _ => by kernel_rfl

theorem o_im_AtlasTotal : LoopsOK E_im_AtlasTotal tt Z_im_AtlasTotal O_im_AtlasTotal C_im_AtlasTotal := by
  have h : loopsOf C_im_AtlasTotal = [] := by kernel_rfl
  unfold LoopsOK
  rw [h]
  exact fun _ h => absurd h List.not_mem_nil

theorem ok_im_AtlasTotal : FnOK prog E_im_AtlasTotal tt 34 D_im_AtlasTotal K_im_AtlasTotal Z_im_AtlasTotal O_im_AtlasTotal f34 C_im_AtlasTotal (fun x => T_im_AtlasTotal x.1.1.1 x.1.1.2.1 x.1.1.2.2.1 x.1.1.2.2.2.1) (fun r => ((r.1, (r.2, ())), ())) where
  at_ := func34
  name := by kernel_rfl
  body := by kernel_rfl
  res := by kernel_rfl
  ok := by kernel_rfl
  arity := fun _ => Nat.le_of_ble_eq_true (by kernel_rfl)
  pin := fun _ => by kernel_rfl
  chk := by kernel_rfl
  loops := o_im_AtlasTotal
  run := e_im_AtlasTotal
  F := fun _ => rfl
  emb := fun _ => rfl

theorem fd_im_AtlasTotal : FDok prog (34, D_im_AtlasTotal) := fn_ok mixed (env_ok (List.forall_mem_cons.2 ⟨fd_im_IsAtlas, List.forall_mem_cons.2 ⟨fd_im_TotalOf, fun _ h => absurd h List.not_mem_nil⟩⟩)) tabOK ok_im_AtlasTotal

theorem e_slices_Min_Sint_int : ∀ x : D_slices_Min_Sint_int.T, ((acode E_slices_Min_Sint_int tt Z_slices_Min_Sint_int (orcOf O_slices_Min_Sint_int) C_slices_Min_Sint_int (entry A_slices_Min_Sint_int I_slices_Min_Sint_int x)).map (keepRet tt K_slices_Min_Sint_int)).ev = ((T_slices_Min_Sint_int x.1.1).map fun r => some ((((r, ()), ())) : K_slices_Min_Sint_int.T)).ev := fun _ => by kernel_rfl

noncomputable def B_slices_Min_Sint_int_0 : Code := ((loopsOf C_slices_Min_Sint_int).find? fun p => Nat.beq p.1 0).elim .skip (·.2)
theorem l_slices_Min_Sint_int_0 : (DL_slices_Min_Sint_int_0).OK E_slices_Min_Sint_int tt Z_slices_Min_Sint_int (orcOf O_slices_Min_Sint_int) B_slices_Min_Sint_int_0 where
  ok := by kernel_rfl
  oke := by kernel_rfl
  okr := by kernel_rfl
  eta := fun _ => rfl
  step := fun _ _ => by kernel_rfl

theorem o_slices_Min_Sint_int : LoopsOK E_slices_Min_Sint_int tt Z_slices_Min_Sint_int O_slices_Min_Sint_int C_slices_Min_Sint_int := by
  have h : loopsOf C_slices_Min_Sint_int = [(0, B_slices_Min_Sint_int_0)] := by kernel_rfl
  unfold LoopsOK
  rw [h]
  exact List.forall_mem_cons.2 ⟨fun d h => (by have e : some (DL_slices_Min_Sint_int_0) = some d := h; cases e; exact l_slices_Min_Sint_int_0), fun _ h => absurd h List.not_mem_nil⟩

theorem ok_slices_Min_Sint_int : FnOK prog E_slices_Min_Sint_int tt 159 D_slices_Min_Sint_int K_slices_Min_Sint_int Z_slices_Min_Sint_int O_slices_Min_Sint_int f159 C_slices_Min_Sint_int (fun x => T_slices_Min_Sint_int x.1.1) (fun r => ((r, ()), ())) where
  at_ := func159
  name := by kernel_rfl
  body := by kernel_rfl
  res := by kernel_rfl
  ok := by kernel_rfl
  arity := fun _ => Nat.le_of_ble_eq_true (by kernel_rfl)
  pin := fun _ => by kernel_rfl
  chk := by kernel_rfl
  loops := o_slices_Min_Sint_int
  run := e_slices_Min_Sint_int
  F := fun _ => rfl
  emb := fun _ => rfl

theorem fd_slices_Min_Sint_int : FDok prog (159, D_slices_Min_Sint_int) := fn_ok mixed (env_ok (fun _ h => absurd h List.not_mem_nil)) tabOK ok_slices_Min_Sint_int

theorem e_im_Field_claims : ∀ x : D_im_Field_claims.T, ((acode E_im_Field_claims tt Z_im_Field_claims (orcOf O_im_Field_claims) C_im_Field_claims (entry A_im_Field_claims I_im_Field_claims x)).map (keepRet tt K_im_Field_claims)).ev = ((T_im_Field_claims x.1.1.1 x.1.1.2.1 x.1.2.1 x.1.2.2.1).map fun r => some (((((), ()), (r, ()))) : K_im_Field_claims.T)).ev := fun _ => by kernel_rfl

noncomputable def B_im_Field_claims_2 : Code := ((loopsOf C_im_Field_claims).find? fun p => Nat.beq p.1 2).elim .skip (·.2)
theorem l_im_Field_claims_2 : (DL_im_Field_claims_2).OK E_im_Field_claims tt Z_im_Field_claims (orcOf O_im_Field_claims) B_im_Field_claims_2 where
  ok := by kernel_rfl
  oke := by kernel_rfl
  okr := by kernel_rfl
  eta := fun _ => rfl
  step := fun _ _ => by kernel_rfl

noncomputable def B_im_Field_claims_0 : Code := ((loopsOf C_im_Field_claims).find? fun p => Nat.beq p.1 0).elim .skip (·.2)
theorem l_im_Field_claims_0 : (DL_im_Field_claims_0).OK E_im_Field_claims tt Z_im_Field_claims (orcOf O_im_Field_claims) B_im_Field_claims_0 where
  ok := by kernel_rfl
  oke := by kernel_rfl
  okr := by kernel_rfl
  eta := fun _ => rfl
  step := fun _ _ => by kernel_rfl

theorem o_im_Field_claims : LoopsOK E_im_Field_claims tt Z_im_Field_claims O_im_Field_claims C_im_Field_claims := by
  have h : loopsOf C_im_Field_claims = [(0, B_im_Field_claims_0), (2, B_im_Field_claims_2)] := by kernel_rfl
  unfold LoopsOK
  rw [h]
  exact List.forall_mem_cons.2 ⟨fun d h => (by have e : some (DL_im_Field_claims_0) = some d := h; cases e; exact l_im_Field_claims_0), List.forall_mem_cons.2 ⟨fun d h => (by have e : some (DL_im_Field_claims_2) = some d := h; cases e; exact l_im_Field_claims_2), fun _ h => absurd h List.not_mem_nil⟩⟩

theorem ok_im_Field_claims : FnOK prog E_im_Field_claims tt 183 D_im_Field_claims K_im_Field_claims Z_im_Field_claims O_im_Field_claims f183 C_im_Field_claims (fun x => T_im_Field_claims x.1.1.1 x.1.1.2.1 x.1.2.1 x.1.2.2.1) (fun r => (((), ()), (r, ()))) where
  at_ := func183
  name := by kernel_rfl
  body := by kernel_rfl
  res := by kernel_rfl
  ok := by kernel_rfl
  arity := fun _ => Nat.le_of_ble_eq_true (by kernel_rfl)
  pin := fun _ => by kernel_rfl
  chk := by kernel_rfl
  loops := o_im_Field_claims
  run := e_im_Field_claims
  F := fun _ => rfl
  emb := fun _ => rfl

theorem fd_im_Field_claims : FDok prog (183, D_im_Field_claims) := fn_ok mixed (env_ok (fun _ h => absurd h List.not_mem_nil)) tabOK ok_im_Field_claims

theorem e_im_Field_rests : ∀ x : D_im_Field_rests.T, ((acode E_im_Field_rests tt Z_im_Field_rests (orcOf O_im_Field_rests) C_im_Field_rests (entry A_im_Field_rests I_im_Field_rests x)).map (keepRet tt K_im_Field_rests)).ev = ((T_im_Field_rests x.1.1.1 x.1.1.2.1 x.1.2.1).map fun r => some (((((), ()), (r, ()))) : K_im_Field_rests.T)).ev := fun _ => by kernel_rfl

noncomputable def B_im_Field_rests_0 : Code := ((loopsOf C_im_Field_rests).find? fun p => Nat.beq p.1 0).elim .skip (·.2)
theorem l_im_Field_rests_0 : (DL_im_Field_rests_0).OK E_im_Field_rests tt Z_im_Field_rests (orcOf O_im_Field_rests) B_im_Field_rests_0 where
  ok := by kernel_rfl
  oke := by kernel_rfl
  okr := by kernel_rfl
  eta := fun _ => rfl
  step := fun _ _ => by kernel_rfl

theorem o_im_Field_rests : LoopsOK E_im_Field_rests tt Z_im_Field_rests O_im_Field_rests C_im_Field_rests := by
  have h : loopsOf C_im_Field_rests = [(0, B_im_Field_rests_0)] := by kernel_rfl
  unfold LoopsOK
  rw [h]
  exact List.forall_mem_cons.2 ⟨fun d h => (by have e : some (DL_im_Field_rests_0) = some d := h; cases e; exact l_im_Field_rests_0), fun _ h => absurd h List.not_mem_nil⟩

theorem ok_im_Field_rests : FnOK prog E_im_Field_rests tt 160 D_im_Field_rests K_im_Field_rests Z_im_Field_rests O_im_Field_rests f160 C_im_Field_rests (fun x => T_im_Field_rests x.1.1.1 x.1.1.2.1 x.1.2.1) (fun r => (((), ()), (r, ()))) where
  at_ := func160
  name := by kernel_rfl
  body := by kernel_rfl
  res := by kernel_rfl
  ok := by kernel_rfl
  arity := fun _ => Nat.le_of_ble_eq_true (by kernel_rfl)
  pin := fun _ => by kernel_rfl
  chk := by kernel_rfl
  loops := o_im_Field_rests
  run := e_im_Field_rests
  F := fun _ => rfl
  emb := fun _ => rfl

theorem fd_im_Field_rests : FDok prog (160, D_im_Field_rests) := fn_ok mixed (env_ok (List.forall_mem_cons.2 ⟨fd_im_Field_claims, fun _ h => absurd h List.not_mem_nil⟩)) tabOK ok_im_Field_rests

theorem e_im_AscentPrices : ∀ x : D_im_AscentPrices.T, ((acode E_im_AscentPrices tt Z_im_AscentPrices (orcOf O_im_AscentPrices) C_im_AscentPrices (entry A_im_AscentPrices I_im_AscentPrices x)).map (keepRet tt K_im_AscentPrices)).ev = ((T_im_AscentPrices x.1.1.1 x.1.1.2.1).map fun r => some (((((), (r.1, ())), (r.2, ()))) : K_im_AscentPrices.T)).ev := fun _ => by kernel_rfl

noncomputable def B_im_AscentPrices_0 : Code := ((loopsOf C_im_AscentPrices).find? fun p => Nat.beq p.1 0).elim .skip (·.2)
theorem l_im_AscentPrices_0 : (DL_im_AscentPrices_0).OK E_im_AscentPrices tt Z_im_AscentPrices (orcOf O_im_AscentPrices) B_im_AscentPrices_0 where
  ok := by kernel_rfl
  oke := by kernel_rfl
  okr := by kernel_rfl
  eta := fun _ => rfl
  step := fun _ _ => by kernel_rfl

noncomputable def B_im_AscentPrices_6 : Code := ((loopsOf C_im_AscentPrices).find? fun p => Nat.beq p.1 6).elim .skip (·.2)
theorem l_im_AscentPrices_6 : (DL_im_AscentPrices_6).OK E_im_AscentPrices tt Z_im_AscentPrices (orcOf O_im_AscentPrices) B_im_AscentPrices_6 where
  ok := by kernel_rfl
  oke := by kernel_rfl
  okr := by kernel_rfl
  eta := fun _ => rfl
  step := fun _ _ => by kernel_rfl

noncomputable def B_im_AscentPrices_4 : Code := ((loopsOf C_im_AscentPrices).find? fun p => Nat.beq p.1 4).elim .skip (·.2)
theorem l_im_AscentPrices_4 : (DL_im_AscentPrices_4).OK E_im_AscentPrices tt Z_im_AscentPrices (orcOf O_im_AscentPrices) B_im_AscentPrices_4 where
  ok := by kernel_rfl
  oke := by kernel_rfl
  okr := by kernel_rfl
  eta := fun _ => rfl
  step := fun _ _ => by kernel_rfl

noncomputable def B_im_AscentPrices_2 : Code := ((loopsOf C_im_AscentPrices).find? fun p => Nat.beq p.1 2).elim .skip (·.2)
theorem l_im_AscentPrices_2 : (DL_im_AscentPrices_2).OK E_im_AscentPrices tt Z_im_AscentPrices (orcOf O_im_AscentPrices) B_im_AscentPrices_2 where
  ok := by kernel_rfl
  oke := by kernel_rfl
  okr := by kernel_rfl
  eta := fun _ => rfl
  step := fun _ _ => by kernel_rfl

theorem o_im_AscentPrices : LoopsOK E_im_AscentPrices tt Z_im_AscentPrices O_im_AscentPrices C_im_AscentPrices := by
  have h : loopsOf C_im_AscentPrices = [(0, B_im_AscentPrices_0), (2, B_im_AscentPrices_2), (4, B_im_AscentPrices_4), (6, B_im_AscentPrices_6)] := by kernel_rfl
  unfold LoopsOK
  rw [h]
  exact List.forall_mem_cons.2 ⟨fun d h => (by have e : some (DL_im_AscentPrices_0) = some d := h; cases e; exact l_im_AscentPrices_0), List.forall_mem_cons.2 ⟨fun d h => (by have e : some (DL_im_AscentPrices_2) = some d := h; cases e; exact l_im_AscentPrices_2), List.forall_mem_cons.2 ⟨fun d h => (by have e : some (DL_im_AscentPrices_4) = some d := h; cases e; exact l_im_AscentPrices_4), List.forall_mem_cons.2 ⟨fun d h => (by have e : some (DL_im_AscentPrices_6) = some d := h; cases e; exact l_im_AscentPrices_6), fun _ h => absurd h List.not_mem_nil⟩⟩⟩⟩

theorem ok_im_AscentPrices : FnOK prog E_im_AscentPrices tt 107 D_im_AscentPrices K_im_AscentPrices Z_im_AscentPrices O_im_AscentPrices f107 C_im_AscentPrices (fun x => T_im_AscentPrices x.1.1.1 x.1.1.2.1) (fun r => (((), (r.1, ())), (r.2, ()))) where
  at_ := func107
  name := by kernel_rfl
  body := by kernel_rfl
  res := by kernel_rfl
  ok := by kernel_rfl
  arity := fun _ => Nat.le_of_ble_eq_true (by kernel_rfl)
  pin := fun _ => by kernel_rfl
  chk := by kernel_rfl
  loops := o_im_AscentPrices
  run := e_im_AscentPrices
  F := fun _ => rfl
  emb := fun _ => rfl

theorem fd_im_AscentPrices : FDok prog (107, D_im_AscentPrices) := fn_ok mixed (env_ok (List.forall_mem_cons.2 ⟨fd_im_IsField, List.forall_mem_cons.2 ⟨fd_slices_Min_Sint_int, List.forall_mem_cons.2 ⟨fd_im_Field_rests, fun _ h => absurd h List.not_mem_nil⟩⟩⟩)) tabOK ok_im_AscentPrices

theorem e_im_AtlasGap : ∀ x : D_im_AtlasGap.T, ((acode E_im_AtlasGap tt Z_im_AtlasGap (orcOf O_im_AtlasGap) C_im_AtlasGap (entry A_im_AtlasGap I_im_AtlasGap x)).map (keepRet tt K_im_AtlasGap)).ev = ((T_im_AtlasGap x.1.1.1 x.1.1.2.1 x.1.1.2.2.1 x.1.1.2.2.2.1).map fun r => some ((((r.1, (r.2, ())), ())) : K_im_AtlasGap.T)).ev := fun _ => by kernel_rfl

theorem o_im_AtlasGap : LoopsOK E_im_AtlasGap tt Z_im_AtlasGap O_im_AtlasGap C_im_AtlasGap := by
  have h : loopsOf C_im_AtlasGap = [] := by kernel_rfl
  unfold LoopsOK
  rw [h]
  exact fun _ h => absurd h List.not_mem_nil

theorem ok_im_AtlasGap : FnOK prog E_im_AtlasGap tt 49 D_im_AtlasGap K_im_AtlasGap Z_im_AtlasGap O_im_AtlasGap f49 C_im_AtlasGap (fun x => T_im_AtlasGap x.1.1.1 x.1.1.2.1 x.1.1.2.2.1 x.1.1.2.2.2.1) (fun r => ((r.1, (r.2, ())), ())) where
  at_ := func49
  name := by kernel_rfl
  body := by kernel_rfl
  res := by kernel_rfl
  ok := by kernel_rfl
  arity := fun _ => Nat.le_of_ble_eq_true (by kernel_rfl)
  pin := fun _ => by kernel_rfl
  chk := by kernel_rfl
  loops := o_im_AtlasGap
  run := e_im_AtlasGap
  F := fun _ => rfl
  emb := fun _ => rfl

theorem fd_im_AtlasGap : FDok prog (49, D_im_AtlasGap) := fn_ok mixed (env_ok (List.forall_mem_cons.2 ⟨fd_im_AtlasTotal, List.forall_mem_cons.2 ⟨fd_im_AscentPrices, List.forall_mem_cons.2 ⟨fd_im_sum, fun _ h => absurd h List.not_mem_nil⟩⟩⟩)) tabOK ok_im_AtlasGap

theorem e_lw_eqIntS : ∀ x : D_lw_eqIntS.T, ((acode E_lw_eqIntS tt Z_lw_eqIntS (orcOf O_lw_eqIntS) C_lw_eqIntS (entry A_lw_eqIntS I_lw_eqIntS x)).map (keepRet tt K_lw_eqIntS)).ev = ((T_lw_eqIntS x.1.1 x.1.2.1).map fun r => some ((((r, ()), ())) : K_lw_eqIntS.T)).ev := fun _ => by kernel_rfl

noncomputable def B_lw_eqIntS_0 : Code := ((loopsOf C_lw_eqIntS).find? fun p => Nat.beq p.1 0).elim .skip (·.2)
theorem l_lw_eqIntS_0 : (DL_lw_eqIntS_0).OK E_lw_eqIntS tt Z_lw_eqIntS (orcOf O_lw_eqIntS) B_lw_eqIntS_0 where
  ok := by kernel_rfl
  oke := by kernel_rfl
  okr := by kernel_rfl
  eta := fun _ => rfl
  step := fun _ _ => by kernel_rfl

theorem o_lw_eqIntS : LoopsOK E_lw_eqIntS tt Z_lw_eqIntS O_lw_eqIntS C_lw_eqIntS := by
  have h : loopsOf C_lw_eqIntS = [(0, B_lw_eqIntS_0)] := by kernel_rfl
  unfold LoopsOK
  rw [h]
  exact List.forall_mem_cons.2 ⟨fun d h => (by have e : some (DL_lw_eqIntS_0) = some d := h; cases e; exact l_lw_eqIntS_0), fun _ h => absurd h List.not_mem_nil⟩

theorem ok_lw_eqIntS : FnOK prog E_lw_eqIntS tt 38 D_lw_eqIntS K_lw_eqIntS Z_lw_eqIntS O_lw_eqIntS f38 C_lw_eqIntS (fun x => T_lw_eqIntS x.1.1 x.1.2.1) (fun r => ((r, ()), ())) where
  at_ := func38
  name := by kernel_rfl
  body := by kernel_rfl
  res := by kernel_rfl
  ok := by kernel_rfl
  arity := fun _ => Nat.le_of_ble_eq_true (by kernel_rfl)
  pin := fun _ => by kernel_rfl
  chk := by kernel_rfl
  loops := o_lw_eqIntS
  run := e_lw_eqIntS
  F := fun _ => rfl
  emb := fun _ => rfl

theorem fd_lw_eqIntS : FDok prog (38, D_lw_eqIntS) := fn_ok mixed (env_ok (fun _ h => absurd h List.not_mem_nil)) tabOK ok_lw_eqIntS

theorem e_lw_eqIntSS : ∀ x : D_lw_eqIntSS.T, ((acode E_lw_eqIntSS tt Z_lw_eqIntSS (orcOf O_lw_eqIntSS) C_lw_eqIntSS (entry A_lw_eqIntSS I_lw_eqIntSS x)).map (keepRet tt K_lw_eqIntSS)).ev = ((T_lw_eqIntSS x.1.1 x.1.2.1).map fun r => some ((((r, ()), ())) : K_lw_eqIntSS.T)).ev := fun _ => by kernel_rfl

noncomputable def B_lw_eqIntSS_0 : Code := ((loopsOf C_lw_eqIntSS).find? fun p => Nat.beq p.1 0).elim .skip (·.2)
theorem l_lw_eqIntSS_0 : (DL_lw_eqIntSS_0).OK E_lw_eqIntSS tt Z_lw_eqIntSS (orcOf O_lw_eqIntSS) B_lw_eqIntSS_0 where
  ok := by kernel_rfl
  oke := by kernel_rfl
  okr := by kernel_rfl
  eta := fun _ => rfl
  step := fun _ _ => by kernel_rfl

theorem o_lw_eqIntSS : LoopsOK E_lw_eqIntSS tt Z_lw_eqIntSS O_lw_eqIntSS C_lw_eqIntSS := by
  have h : loopsOf C_lw_eqIntSS = [(0, B_lw_eqIntSS_0)] := by kernel_rfl
  unfold LoopsOK
  rw [h]
  exact List.forall_mem_cons.2 ⟨fun d h => (by have e : some (DL_lw_eqIntSS_0) = some d := h; cases e; exact l_lw_eqIntSS_0), fun _ h => absurd h List.not_mem_nil⟩

theorem ok_lw_eqIntSS : FnOK prog E_lw_eqIntSS tt 19 D_lw_eqIntSS K_lw_eqIntSS Z_lw_eqIntSS O_lw_eqIntSS f19 C_lw_eqIntSS (fun x => T_lw_eqIntSS x.1.1 x.1.2.1) (fun r => ((r, ()), ())) where
  at_ := func19
  name := by kernel_rfl
  body := by kernel_rfl
  res := by kernel_rfl
  ok := by kernel_rfl
  arity := fun _ => Nat.le_of_ble_eq_true (by kernel_rfl)
  pin := fun _ => by kernel_rfl
  chk := by kernel_rfl
  loops := o_lw_eqIntSS
  run := e_lw_eqIntSS
  F := fun _ => rfl
  emb := fun _ => rfl

theorem fd_lw_eqIntSS : FDok prog (19, D_lw_eqIntSS) := fn_ok mixed (env_ok (List.forall_mem_cons.2 ⟨fd_lw_eqIntS, fun _ h => absurd h List.not_mem_nil⟩)) tabOK ok_lw_eqIntSS

theorem e_lw_eqField : ∀ x : D_lw_eqField.T, ((acode E_lw_eqField tt Z_lw_eqField (orcOf O_lw_eqField) C_lw_eqField (entry A_lw_eqField I_lw_eqField x)).map (keepRet tt K_lw_eqField)).ev = ((T_lw_eqField x.1.1.1 x.1.1.2.1 x.1.2.1.1 x.1.2.1.2.1).map fun r => some ((((r, ()), ())) : K_lw_eqField.T)).ev := fun _ => by kernel_rfl

theorem o_lw_eqField : LoopsOK E_lw_eqField tt Z_lw_eqField O_lw_eqField C_lw_eqField := by
  have h : loopsOf C_lw_eqField = [] := by kernel_rfl
  unfold LoopsOK
  rw [h]
  exact fun _ h => absurd h List.not_mem_nil

theorem ok_lw_eqField : FnOK prog E_lw_eqField tt 27 D_lw_eqField K_lw_eqField Z_lw_eqField O_lw_eqField f27 C_lw_eqField (fun x => T_lw_eqField x.1.1.1 x.1.1.2.1 x.1.2.1.1 x.1.2.1.2.1) (fun r => ((r, ()), ())) where
  at_ := func27
  name := by kernel_rfl
  body := by kernel_rfl
  res := by kernel_rfl
  ok := by kernel_rfl
  arity := fun _ => Nat.le_of_ble_eq_true (by kernel_rfl)
  pin := fun _ => by kernel_rfl
  chk := by kernel_rfl
  loops := o_lw_eqField
  run := e_lw_eqField
  F := fun _ => rfl
  emb := fun _ => rfl

theorem fd_lw_eqField : FDok prog (27, D_lw_eqField) := fn_ok mixed (env_ok (List.forall_mem_cons.2 ⟨fd_lw_eqIntS, List.forall_mem_cons.2 ⟨fd_lw_eqIntSS, fun _ h => absurd h List.not_mem_nil⟩⟩)) tabOK ok_lw_eqField

theorem e_lw_eqAtlas : ∀ x : D_lw_eqAtlas.T, ((acode E_lw_eqAtlas tt Z_lw_eqAtlas (orcOf O_lw_eqAtlas) C_lw_eqAtlas (entry A_lw_eqAtlas I_lw_eqAtlas x)).map (keepRet tt K_lw_eqAtlas)).ev = ((T_lw_eqAtlas x.1.1.1 x.1.1.2.1 x.1.1.2.2.1 x.1.1.2.2.2.1 x.1.2.1.1 x.1.2.1.2.1 x.1.2.1.2.2.1 x.1.2.1.2.2.2.1).map fun r => some ((((r, ()), ())) : K_lw_eqAtlas.T)).ev := fun _ => by kernel_rfl

theorem o_lw_eqAtlas : LoopsOK E_lw_eqAtlas tt Z_lw_eqAtlas O_lw_eqAtlas C_lw_eqAtlas := by
  have h : loopsOf C_lw_eqAtlas = [] := by kernel_rfl
  unfold LoopsOK
  rw [h]
  exact fun _ h => absurd h List.not_mem_nil

theorem ok_lw_eqAtlas : FnOK prog E_lw_eqAtlas tt 26 D_lw_eqAtlas K_lw_eqAtlas Z_lw_eqAtlas O_lw_eqAtlas f26 C_lw_eqAtlas (fun x => T_lw_eqAtlas x.1.1.1 x.1.1.2.1 x.1.1.2.2.1 x.1.1.2.2.2.1 x.1.2.1.1 x.1.2.1.2.1 x.1.2.1.2.2.1 x.1.2.1.2.2.2.1) (fun r => ((r, ()), ())) where
  at_ := func26
  name := by kernel_rfl
  body := by kernel_rfl
  res := by kernel_rfl
  ok := by kernel_rfl
  arity := fun _ => Nat.le_of_ble_eq_true (by kernel_rfl)
  pin := fun _ => by kernel_rfl
  chk := by kernel_rfl
  loops := o_lw_eqAtlas
  run := e_lw_eqAtlas
  F := fun _ => rfl
  emb := fun _ => rfl

theorem fd_lw_eqAtlas : FDok prog (26, D_lw_eqAtlas) := fn_ok mixed (env_ok (List.forall_mem_cons.2 ⟨fd_lw_eqField, List.forall_mem_cons.2 ⟨fd_lw_eqIntS, fun _ h => absurd h List.not_mem_nil⟩⟩)) tabOK ok_lw_eqAtlas

theorem e_lw_FnExactAtlasGap : ∀ x : D_lw_FnExactAtlasGap.T, ((acode E_lw_FnExactAtlasGap tt Z_lw_FnExactAtlasGap (orcOf O_lw_FnExactAtlasGap) C_lw_FnExactAtlasGap (entry A_lw_FnExactAtlasGap I_lw_FnExactAtlasGap x)).map (keepRet tt K_lw_FnExactAtlasGap)).ev = ((T_lw_FnExactAtlasGap x.1.1.1 x.1.1.2.1 x.1.1.2.2.1 x.1.1.2.2.2.1).map fun r => some ((((r, ()), ())) : K_lw_FnExactAtlasGap.T)).ev := fun _ => by kernel_rfl

theorem o_lw_FnExactAtlasGap : LoopsOK E_lw_FnExactAtlasGap tt Z_lw_FnExactAtlasGap O_lw_FnExactAtlasGap C_lw_FnExactAtlasGap := by
  have h : loopsOf C_lw_FnExactAtlasGap = [] := by kernel_rfl
  unfold LoopsOK
  rw [h]
  exact fun _ h => absurd h List.not_mem_nil

theorem ok_lw_FnExactAtlasGap : FnOK prog E_lw_FnExactAtlasGap tt 9 D_lw_FnExactAtlasGap K_lw_FnExactAtlasGap Z_lw_FnExactAtlasGap O_lw_FnExactAtlasGap f9 C_lw_FnExactAtlasGap (fun x => T_lw_FnExactAtlasGap x.1.1.1 x.1.1.2.1 x.1.1.2.2.1 x.1.1.2.2.2.1) (fun r => ((r, ()), ())) where
  at_ := func9
  name := by kernel_rfl
  body := by kernel_rfl
  res := by kernel_rfl
  ok := by kernel_rfl
  arity := fun _ => Nat.le_of_ble_eq_true (by kernel_rfl)
  pin := fun _ => by kernel_rfl
  chk := by kernel_rfl
  loops := o_lw_FnExactAtlasGap
  run := e_lw_FnExactAtlasGap
  F := fun _ => rfl
  emb := fun _ => rfl

theorem fd_lw_FnExactAtlasGap : FDok prog (9, D_lw_FnExactAtlasGap) := fn_ok mixed (env_ok (List.forall_mem_cons.2 ⟨fd_lw_szAtlas, List.forall_mem_cons.2 ⟨fd_lw_toAtlas, List.forall_mem_cons.2 ⟨fd_sp_AtlasGap, List.forall_mem_cons.2 ⟨fd_im_AtlasGap, List.forall_mem_cons.2 ⟨fd_lw_eqAtlas, fun _ h => absurd h List.not_mem_nil⟩⟩⟩⟩⟩)) tabOK ok_lw_FnExactAtlasGap
end Go.Proofs.Ythkafleokepjeaa
