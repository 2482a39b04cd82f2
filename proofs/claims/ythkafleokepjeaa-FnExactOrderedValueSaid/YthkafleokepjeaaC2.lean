import Derived.Test.YthkafleokepjeaaC1
namespace Go.Proofs.Ythkafleokepjeaa
open Go.Proofs.Try

theorem mixed : prog.follows .mixedOrders = true := by kernel_rfl
theorem tabOK : TabOK prog tt := tab_ok (by kernel_rfl)

theorem e_lw_szIntS : ∀ x : D_lw_szIntS.T, ((acode E_lw_szIntS tt Z_lw_szIntS (orcOf O_lw_szIntS) C_lw_szIntS (entry A_lw_szIntS I_lw_szIntS x)).map (keepRet tt K_lw_szIntS)).ev = ((T_lw_szIntS x.1.1 x.1.2.1).map fun r => some ((((r, ()), ())) : K_lw_szIntS.T)).ev := fun _ => by kernel_rfl

theorem o_lw_szIntS : LoopsOK E_lw_szIntS tt Z_lw_szIntS O_lw_szIntS C_lw_szIntS := by
  have h : loopsOf C_lw_szIntS = [] := by kernel_rfl
  unfold LoopsOK
  rw [h]
  exact fun _ h => absurd h List.not_mem_nil

theorem ok_lw_szIntS : FnOK prog E_lw_szIntS tt 69 D_lw_szIntS K_lw_szIntS Z_lw_szIntS O_lw_szIntS f69 C_lw_szIntS (fun x => T_lw_szIntS x.1.1 x.1.2.1) (fun r => ((r, ()), ())) where
  at_ := func69
  name := by kernel_rfl
  body := by kernel_rfl
  res := by kernel_rfl
  ok := by kernel_rfl
  arity := fun _ => Nat.le_of_ble_eq_true (by kernel_rfl)
  pin := fun _ => by kernel_rfl
  chk := by kernel_rfl
  loops := o_lw_szIntS
  run := e_lw_szIntS
  F := fun _ => rfl
  emb := fun _ => rfl

theorem fd_lw_szIntS : FDok prog (69, D_lw_szIntS) := fn_ok mixed (env_ok (fun _ h => absurd h List.not_mem_nil)) tabOK ok_lw_szIntS

theorem e_lw_szIntSS : ∀ x : D_lw_szIntSS.T, ((acode E_lw_szIntSS tt Z_lw_szIntSS (orcOf O_lw_szIntSS) C_lw_szIntSS (entry A_lw_szIntSS I_lw_szIntSS x)).map (keepRet tt K_lw_szIntSS)).ev = ((T_lw_szIntSS x.1.1 x.1.2.1).map fun r => some ((((r, ()), ())) : K_lw_szIntSS.T)).ev := fun _ => by kernel_rfl

noncomputable def B_lw_szIntSS_0 : Code := ((loopsOf C_lw_szIntSS).find? fun p => Nat.beq p.1 0).elim .skip (·.2)
theorem l_lw_szIntSS_0 : (DL_lw_szIntSS_0).OK E_lw_szIntSS tt Z_lw_szIntSS (orcOf O_lw_szIntSS) B_lw_szIntSS_0 where
  ok := by kernel_rfl
  oke := by kernel_rfl
  okr := by kernel_rfl
  eta := fun _ => rfl
  step := fun _ _ => by kernel_rfl

theorem o_lw_szIntSS : LoopsOK E_lw_szIntSS tt Z_lw_szIntSS O_lw_szIntSS C_lw_szIntSS := by
  have h : loopsOf C_lw_szIntSS = [(0, B_lw_szIntSS_0)] := by kernel_rfl
  unfold LoopsOK
  rw [h]
  exact List.forall_mem_cons.2 ⟨fun d h => (by have e : some (DL_lw_szIntSS_0) = some d := h; cases e; exact l_lw_szIntSS_0), fun _ h => absurd h List.not_mem_nil⟩

theorem ok_lw_szIntSS : FnOK prog E_lw_szIntSS tt 15 D_lw_szIntSS K_lw_szIntSS Z_lw_szIntSS O_lw_szIntSS f15 C_lw_szIntSS (fun x => T_lw_szIntSS x.1.1 x.1.2.1) (fun r => ((r, ()), ())) where
  at_ := func15
  name := by kernel_rfl
  body := by kernel_rfl
  res := by kernel_rfl
  ok := by kernel_rfl
  arity := fun _ => Nat.le_of_ble_eq_true (by kernel_rfl)
  pin := fun _ => by kernel_rfl
  chk := by kernel_rfl
  loops := o_lw_szIntSS
  run := e_lw_szIntSS
  F := fun _ => rfl
  emb := fun _ => rfl

theorem fd_lw_szIntSS : FDok prog (15, D_lw_szIntSS) := fn_ok mixed (env_ok (List.forall_mem_cons.2 ⟨fd_lw_szIntS, fun _ h => absurd h List.not_mem_nil⟩)) tabOK ok_lw_szIntSS

theorem e_lw_szField : ∀ x : D_lw_szField.T, ((acode E_lw_szField tt Z_lw_szField (orcOf O_lw_szField) C_lw_szField (entry A_lw_szField I_lw_szField x)).map (keepRet tt K_lw_szField)).ev = ((T_lw_szField x.1.1.1 x.1.1.2.1 x.1.2.1).map fun r => some ((((r, ()), ())) : K_lw_szField.T)).ev := fun _ => by kernel_rfl

theorem o_lw_szField : LoopsOK E_lw_szField tt Z_lw_szField O_lw_szField C_lw_szField := by
  have h : loopsOf C_lw_szField = [] := by kernel_rfl
  unfold LoopsOK
  rw [h]
  exact fun _ h => absurd h List.not_mem_nil

theorem ok_lw_szField : FnOK prog E_lw_szField tt 22 D_lw_szField K_lw_szField Z_lw_szField O_lw_szField f22 C_lw_szField (fun x => T_lw_szField x.1.1.1 x.1.1.2.1 x.1.2.1) (fun r => ((r, ()), ())) where
  at_ := func22
  name := by kernel_rfl
  body := by kernel_rfl
  res := by kernel_rfl
  ok := by kernel_rfl
  arity := fun _ => Nat.le_of_ble_eq_true (by kernel_rfl)
  pin := fun _ => by kernel_rfl
  chk := by kernel_rfl
  loops := o_lw_szField
  run := e_lw_szField
  F := fun _ => rfl
  emb := fun _ => rfl

theorem fd_lw_szField : FDok prog (22, D_lw_szField) := fn_ok mixed (env_ok (List.forall_mem_cons.2 ⟨fd_lw_szIntS, List.forall_mem_cons.2 ⟨fd_lw_szIntSS, fun _ h => absurd h List.not_mem_nil⟩⟩)) tabOK ok_lw_szField

theorem e_lw_toIntS : ∀ x : D_lw_toIntS.T, ((acode E_lw_toIntS tt Z_lw_toIntS (orcOf O_lw_toIntS) C_lw_toIntS (entry A_lw_toIntS I_lw_toIntS x)).map (keepRet tt K_lw_toIntS)).ev = ((T_lw_toIntS x.1.1).map fun r => some (((((), ()), (r, ()))) : K_lw_toIntS.T)).ev := fun _ => by kernel_rfl

noncomputable def B_lw_toIntS_0 : Code := ((loopsOf C_lw_toIntS).find? fun p => Nat.beq p.1 0).elim .skip (·.2)
theorem l_lw_toIntS_0 : (DL_lw_toIntS_0).OK E_lw_toIntS tt Z_lw_toIntS (orcOf O_lw_toIntS) B_lw_toIntS_0 where
  ok := by kernel_rfl
  oke := by kernel_rfl
  okr := by kernel_rfl
  eta := fun _ => rfl
  step := fun _ _ => by kernel_rfl

theorem o_lw_toIntS : LoopsOK E_lw_toIntS tt Z_lw_toIntS O_lw_toIntS C_lw_toIntS := by
  have h : loopsOf C_lw_toIntS = [(0, B_lw_toIntS_0)] := by kernel_rfl
  unfold LoopsOK
  rw [h]
  exact List.forall_mem_cons.2 ⟨fun d h => (by have e : some (DL_lw_toIntS_0) = some d := h; cases e; exact l_lw_toIntS_0), fun _ h => absurd h List.not_mem_nil⟩

theorem ok_lw_toIntS : FnOK prog E_lw_toIntS tt 36 D_lw_toIntS K_lw_toIntS Z_lw_toIntS O_lw_toIntS f36 C_lw_toIntS (fun x => T_lw_toIntS x.1.1) (fun r => (((), ()), (r, ()))) where
  at_ := func36
  name := by kernel_rfl
  body := by kernel_rfl
  res := by kernel_rfl
  ok := by kernel_rfl
  arity := fun _ => Nat.le_of_ble_eq_true (by kernel_rfl)
  pin := fun _ => by kernel_rfl
  chk := by kernel_rfl
  loops := o_lw_toIntS
  run := e_lw_toIntS
  F := fun _ => rfl
  emb := fun _ => rfl

theorem fd_lw_toIntS : FDok prog (36, D_lw_toIntS) := fn_ok mixed (env_ok (fun _ h => absurd h List.not_mem_nil)) tabOK ok_lw_toIntS

theorem e_lw_toIntSS : ∀ x : D_lw_toIntSS.T, ((acode E_lw_toIntSS tt Z_lw_toIntSS (orcOf O_lw_toIntSS) C_lw_toIntSS (entry A_lw_toIntSS I_lw_toIntSS x)).map (keepRet tt K_lw_toIntSS)).ev = ((T_lw_toIntSS x.1.1).map fun r => some (((((), ()), (r, ()))) : K_lw_toIntSS.T)).ev := fun _ => by kernel_rfl

noncomputable def B_lw_toIntSS_0 : Code := ((loopsOf C_lw_toIntSS).find? fun p => Nat.beq p.1 0).elim .skip (·.2)
theorem l_lw_toIntSS_0 : (DL_lw_toIntSS_0).OK E_lw_toIntSS tt Z_lw_toIntSS (orcOf O_lw_toIntSS) B_lw_toIntSS_0 where
  ok := by kernel_rfl
  oke := by kernel_rfl
  okr := by kernel_rfl
  eta := fun _ => rfl
  step := fun _ _ => by kernel_rfl

theorem o_lw_toIntSS : LoopsOK E_lw_toIntSS tt Z_lw_toIntSS O_lw_toIntSS C_lw_toIntSS := by
  have h : loopsOf C_lw_toIntSS = [(0, B_lw_toIntSS_0)] := by kernel_rfl
  unfold LoopsOK
  rw [h]
  exact List.forall_mem_cons.2 ⟨fun d h => (by have e : some (DL_lw_toIntSS_0) = some d := h; cases e; exact l_lw_toIntSS_0), fun _ h => absurd h List.not_mem_nil⟩

theorem ok_lw_toIntSS : FnOK prog E_lw_toIntSS tt 17 D_lw_toIntSS K_lw_toIntSS Z_lw_toIntSS O_lw_toIntSS f17 C_lw_toIntSS (fun x => T_lw_toIntSS x.1.1) (fun r => (((), ()), (r, ()))) where
  at_ := func17
  name := by kernel_rfl
  body := by kernel_rfl
  res := by kernel_rfl
  ok := by kernel_rfl
  arity := fun _ => Nat.le_of_ble_eq_true (by kernel_rfl)
  pin := fun _ => by kernel_rfl
  chk := by kernel_rfl
  loops := o_lw_toIntSS
  run := e_lw_toIntSS
  F := fun _ => rfl
  emb := fun _ => rfl

theorem fd_lw_toIntSS : FDok prog (17, D_lw_toIntSS) := fn_ok mixed (env_ok (List.forall_mem_cons.2 ⟨fd_lw_toIntS, fun _ h => absurd h List.not_mem_nil⟩)) tabOK ok_lw_toIntSS

theorem e_lw_toField : ∀ x : D_lw_toField.T, ((acode E_lw_toField tt Z_lw_toField (orcOf O_lw_toField) C_lw_toField (entry A_lw_toField I_lw_toField x)).map (keepRet tt K_lw_toField)).ev = ((T_lw_toField x.1.1.1 x.1.1.2.1).map fun r => some (((((r.1, (r.2, ())), ()), ())) : K_lw_toField.T)).ev := fun _ => by kernel_rfl

theorem o_lw_toField : LoopsOK E_lw_toField tt Z_lw_toField O_lw_toField C_lw_toField := by
  have h : loopsOf C_lw_toField = [] := by kernel_rfl
  unfold LoopsOK
  rw [h]
  exact fun _ h => absurd h List.not_mem_nil

theorem ok_lw_toField : FnOK prog E_lw_toField tt 24 D_lw_toField K_lw_toField Z_lw_toField O_lw_toField f24 C_lw_toField (fun x => T_lw_toField x.1.1.1 x.1.1.2.1) (fun r => (((r.1, (r.2, ())), ()), ())) where
  at_ := func24
  name := by kernel_rfl
  body := by kernel_rfl
  res := by kernel_rfl
  ok := by kernel_rfl
  arity := fun _ => Nat.le_of_ble_eq_true (by kernel_rfl)
  pin := fun _ => by kernel_rfl
  chk := by kernel_rfl
  loops := o_lw_toField
  run := e_lw_toField
  F := fun _ => rfl
  emb := fun _ => rfl

theorem fd_lw_toField : FDok prog (24, D_lw_toField) := fn_ok mixed (env_ok (List.forall_mem_cons.2 ⟨fd_lw_toIntS, List.forall_mem_cons.2 ⟨fd_lw_toIntSS, fun _ h => absurd h List.not_mem_nil⟩⟩)) tabOK ok_lw_toField

theorem e_sp_l1In : ∀ x : D_sp_l1In.T, ((acode E_sp_l1In tt Z_sp_l1In (orcOf O_sp_l1In) C_sp_l1In (entry A_sp_l1In I_sp_l1In x)).map (keepRet tt K_sp_l1In)).ev = ((T_sp_l1In x.1.1 x.1.2.1 x.1.2.2.1).map fun r => some ((((r, ()), ())) : K_sp_l1In.T)).ev := fun _ => by kernel_rfl

theorem o_sp_l1In : LoopsOK E_sp_l1In tt Z_sp_l1In O_sp_l1In C_sp_l1In := by
  have h : loopsOf C_sp_l1In = [] := by kernel_rfl
  unfold LoopsOK
  rw [h]
  exact fun _ h => absurd h List.not_mem_nil

theorem ok_sp_l1In : FnOK prog E_sp_l1In tt 93 D_sp_l1In K_sp_l1In Z_sp_l1In O_sp_l1In f93 C_sp_l1In (fun x => T_sp_l1In x.1.1 x.1.2.1 x.1.2.2.1) (fun r => ((r, ()), ())) where
  at_ := func93
  name := by kernel_rfl
  body := by kernel_rfl
  res := by kernel_rfl
  ok := by kernel_rfl
  arity := fun _ => Nat.le_of_ble_eq_true (by kernel_rfl)
  pin := fun _ => by kernel_rfl
  chk := by kernel_rfl
  loops := o_sp_l1In
  run := e_sp_l1In
  F := fun _ => rfl
  emb := fun _ => rfl

theorem fd_sp_l1In : FDok prog (93, D_sp_l1In) := fn_ok mixed (env_ok (fun _ h => absurd h List.not_mem_nil)) tabOK ok_sp_l1In

theorem e_sp_l2Row : ∀ x : D_sp_l2Row.T, ((acode E_sp_l2Row tt Z_sp_l2Row (orcOf O_sp_l2Row) C_sp_l2Row (entry A_sp_l2Row I_sp_l2Row x)).map (keepRet tt K_sp_l2Row)).ev = ((T_sp_l2Row x.1.1 x.1.2.1 x.1.2.2.1).map fun r => some ((((r, ()), ())) : K_sp_l2Row.T)).ev := fun _ => by kernel_rfl

noncomputable def B_sp_l2Row_0 : Code := ((loopsOf C_sp_l2Row).find? fun p => Nat.beq p.1 0).elim .skip (·.2)
theorem l_sp_l2Row_0 : (DL_sp_l2Row_0).OK E_sp_l2Row tt Z_sp_l2Row (orcOf O_sp_l2Row) B_sp_l2Row_0 where
  ok := by kernel_rfl
  oke := by kernel_rfl
  okr := by kernel_rfl
  eta := fun _ => rfl
  step := fun _ _ => by kernel_rfl

theorem o_sp_l2Row : LoopsOK E_sp_l2Row tt Z_sp_l2Row O_sp_l2Row C_sp_l2Row := by
  have h : loopsOf C_sp_l2Row = [(0, B_sp_l2Row_0)] := by kernel_rfl
  unfold LoopsOK
  rw [h]
  exact List.forall_mem_cons.2 ⟨fun d h => (by have e : some (DL_sp_l2Row_0) = some d := h; cases e; exact l_sp_l2Row_0), fun _ h => absurd h List.not_mem_nil⟩

theorem ok_sp_l2Row : FnOK prog E_sp_l2Row tt 118 D_sp_l2Row K_sp_l2Row Z_sp_l2Row O_sp_l2Row f118 C_sp_l2Row (fun x => T_sp_l2Row x.1.1 x.1.2.1 x.1.2.2.1) (fun r => ((r, ()), ())) where
  at_ := func118
  name := by kernel_rfl
  body := by kernel_rfl
  res := by kernel_rfl
  ok := by kernel_rfl
  arity := fun _ => Nat.le_of_ble_eq_true (by kernel_rfl)
  pin := fun _ => by kernel_rfl
  chk := by kernel_rfl
  loops := o_sp_l2Row
  run := e_sp_l2Row
  F := fun _ => rfl
  emb := fun _ => rfl

theorem fd_sp_l2Row : FDok prog (118, D_sp_l2Row) := fn_ok mixed (env_ok (List.forall_mem_cons.2 ⟨fd_sp_l1In, fun _ h => absurd h List.not_mem_nil⟩)) tabOK ok_sp_l2Row

theorem e_sp_l2Good : ∀ x : D_sp_l2Good.T, ((acode E_sp_l2Good tt Z_sp_l2Good (orcOf O_sp_l2Good) C_sp_l2Good (entry A_sp_l2Good I_sp_l2Good x)).map (keepRet tt K_sp_l2Good)).ev = ((T_sp_l2Good x.1.1.1 x.1.1.2.1).map fun r => some ((((r, ()), ())) : K_sp_l2Good.T)).ev := fun _ => by kernel_rfl

noncomputable def B_sp_l2Good_0 : Code := ((loopsOf C_sp_l2Good).find? fun p => Nat.beq p.1 0).elim .skip (·.2)
theorem l_sp_l2Good_0 : (DL_sp_l2Good_0).OK E_sp_l2Good tt Z_sp_l2Good (orcOf O_sp_l2Good) B_sp_l2Good_0 where
  ok := by kernel_rfl
  oke := by kernel_rfl
  okr := by kernel_rfl
  eta := fun _ => rfl
  step := fun _ _ => by kernel_rfl

theorem o_sp_l2Good : LoopsOK E_sp_l2Good tt Z_sp_l2Good O_sp_l2Good C_sp_l2Good := by
  have h : loopsOf C_sp_l2Good = [(0, B_sp_l2Good_0)] := by kernel_rfl
  unfold LoopsOK
  rw [h]
  exact List.forall_mem_cons.2 ⟨fun d h => (by have e : some (DL_sp_l2Good_0) = some d := h; cases e; exact l_sp_l2Good_0), fun _ h => absurd h List.not_mem_nil⟩

theorem ok_sp_l2Good : FnOK prog E_sp_l2Good tt 138 D_sp_l2Good K_sp_l2Good Z_sp_l2Good O_sp_l2Good f138 C_sp_l2Good (fun x => T_sp_l2Good x.1.1.1 x.1.1.2.1) (fun r => ((r, ()), ())) where
  at_ := func138
  name := by kernel_rfl
  body := by kernel_rfl
  res := by kernel_rfl
  ok := by kernel_rfl
  arity := fun _ => Nat.le_of_ble_eq_true (by kernel_rfl)
  pin := fun _ => by kernel_rfl
  chk := by kernel_rfl
  loops := o_sp_l2Good
  run := e_sp_l2Good
  F := fun _ => rfl
  emb := fun _ => rfl

theorem fd_sp_l2Good : FDok prog (138, D_sp_l2Good) := fn_ok mixed (env_ok (List.forall_mem_cons.2 ⟨fd_sp_l2Row, List.forall_mem_cons.2 ⟨fd_sp_l1In, fun _ h => absurd h List.not_mem_nil⟩⟩)) tabOK ok_sp_l2Good

theorem e_sp_l1Rising : ∀ x : D_sp_l1Rising.T, ((acode E_sp_l1Rising tt Z_sp_l1Rising (orcOf O_sp_l1Rising) C_sp_l1Rising (entry A_sp_l1Rising I_sp_l1Rising x)).map (keepRet tt K_sp_l1Rising)).ev = ((T_sp_l1Rising x.1.1 x.1.2.1 x.1.2.2.1).map fun r => some ((((r, ()), ())) : K_sp_l1Rising.T)).ev := fun _ => by kernel_rfl

noncomputable def B_sp_l1Rising_0 : Code := ((loopsOf C_sp_l1Rising).find? fun p => Nat.beq p.1 0).elim .skip (·.2)
theorem l_sp_l1Rising_0 : (DL_sp_l1Rising_0).OK E_sp_l1Rising tt Z_sp_l1Rising (orcOf O_sp_l1Rising) B_sp_l1Rising_0 where
  ok := by kernel_rfl
  oke := by kernel_rfl
  okr := by kernel_rfl
  eta := fun _ => rfl
  step := fun _ _ => by kernel_rfl

theorem o_sp_l1Rising : LoopsOK E_sp_l1Rising tt Z_sp_l1Rising O_sp_l1Rising C_sp_l1Rising := by
  have h : loopsOf C_sp_l1Rising = [(0, B_sp_l1Rising_0)] := by kernel_rfl
  unfold LoopsOK
  rw [h]
  exact List.forall_mem_cons.2 ⟨fun d h => (by have e : some (DL_sp_l1Rising_0) = some d := h; cases e; exact l_sp_l1Rising_0), fun _ h => absurd h List.not_mem_nil⟩

theorem ok_sp_l1Rising : FnOK prog E_sp_l1Rising tt 178 D_sp_l1Rising K_sp_l1Rising Z_sp_l1Rising O_sp_l1Rising f178 C_sp_l1Rising (fun x => T_sp_l1Rising x.1.1 x.1.2.1 x.1.2.2.1) (fun r => ((r, ()), ())) where
  at_ := func178
  name := by kernel_rfl
  body := by kernel_rfl
  res := by kernel_rfl
  ok := by kernel_rfl
  arity := fun _ => Nat.le_of_ble_eq_true (by kernel_rfl)
  pin := fun _ => by kernel_rfl
  chk := by kernel_rfl
  loops := o_sp_l1Rising
  run := e_sp_l1Rising
  F := fun _ => rfl
  emb := fun _ => rfl

theorem fd_sp_l1Rising : FDok prog (178, D_sp_l1Rising) := fn_ok mixed (env_ok (List.forall_mem_cons.2 ⟨fd_sp_l1In, fun _ h => absurd h List.not_mem_nil⟩)) tabOK ok_sp_l1Rising

theorem e_sp_l2Set : ∀ x : D_sp_l2Set.T, ((acode E_sp_l2Set tt Z_sp_l2Set (orcOf O_sp_l2Set) C_sp_l2Set (entry A_sp_l2Set I_sp_l2Set x)).map (keepRet tt K_sp_l2Set)).ev = ((T_sp_l2Set x.1.1.1 x.1.1.2.1 x.1.2.1).map fun r => some ((((r, ()), ())) : K_sp_l2Set.T)).ev := fun _ => by kernel_rfl

theorem o_sp_l2Set : LoopsOK E_sp_l2Set tt Z_sp_l2Set O_sp_l2Set C_sp_l2Set := by
  have h : loopsOf C_sp_l2Set = [] := by kernel_rfl
  unfold LoopsOK
  rw [h]
  exact fun _ h => absurd h List.not_mem_nil

theorem ok_sp_l2Set : FnOK prog E_sp_l2Set tt 139 D_sp_l2Set K_sp_l2Set Z_sp_l2Set O_sp_l2Set f139 C_sp_l2Set (fun x => T_sp_l2Set x.1.1.1 x.1.1.2.1 x.1.2.1) (fun r => ((r, ()), ())) where
  at_ := func139
  name := by kernel_rfl
  body := by kernel_rfl
  res := by kernel_rfl
  ok := by kernel_rfl
  arity := fun _ => Nat.le_of_ble_eq_true (by kernel_rfl)
  pin := fun _ => by kernel_rfl
  chk := by kernel_rfl
  loops := o_sp_l2Set
  run := e_sp_l2Set
  F := fun _ => rfl
  emb := fun _ => rfl

theorem fd_sp_l2Set : FDok prog (139, D_sp_l2Set) := fn_ok mixed (env_ok (List.forall_mem_cons.2 ⟨fd_sp_l1Rising, fun _ h => absurd h List.not_mem_nil⟩)) tabOK ok_sp_l2Set

theorem e_sp_l2Two : ∀ x : D_sp_l2Two.T, ((acode E_sp_l2Two tt Z_sp_l2Two (orcOf O_sp_l2Two) C_sp_l2Two (entry A_sp_l2Two I_sp_l2Two x)).map (keepRet tt K_sp_l2Two)).ev = ((T_sp_l2Two x.1.1.1 x.1.1.2.1 x.1.2.1).map fun r => some ((((r, ()), ())) : K_sp_l2Two.T)).ev := fun _ => by kernel_rfl

theorem o_sp_l2Two : LoopsOK E_sp_l2Two tt Z_sp_l2Two O_sp_l2Two C_sp_l2Two := by
  have h : loopsOf C_sp_l2Two = [] := by kernel_rfl
  unfold LoopsOK
  rw [h]
  exact fun _ h => absurd h List.not_mem_nil

theorem ok_sp_l2Two : FnOK prog E_sp_l2Two tt 85 D_sp_l2Two K_sp_l2Two Z_sp_l2Two O_sp_l2Two f85 C_sp_l2Two (fun x => T_sp_l2Two x.1.1.1 x.1.1.2.1 x.1.2.1) (fun r => ((r, ()), ())) where
  at_ := func85
  name := by kernel_rfl
  body := by kernel_rfl
  res := by kernel_rfl
  ok := by kernel_rfl
  arity := fun _ => Nat.le_of_ble_eq_true (by kernel_rfl)
  pin := fun _ => by kernel_rfl
  chk := by kernel_rfl
  loops := o_sp_l2Two
  run := e_sp_l2Two
  F := fun _ => rfl
  emb := fun _ => rfl

theorem fd_sp_l2Two : FDok prog (85, D_sp_l2Two) := fn_ok mixed (env_ok (List.forall_mem_cons.2 ⟨fd_sp_l2Good, List.forall_mem_cons.2 ⟨fd_sp_l2Set, fun _ h => absurd h List.not_mem_nil⟩⟩)) tabOK ok_sp_l2Two

theorem e_sp_l2Site : ∀ x : D_sp_l2Site.T, ((acode E_sp_l2Site tt Z_sp_l2Site (orcOf O_sp_l2Site) C_sp_l2Site (entry A_sp_l2Site I_sp_l2Site x)).map (keepRet tt K_sp_l2Site)).ev = ((T_sp_l2Site x.1.1.1 x.1.1.2.1 x.1.2.1 x.1.2.2.1).map fun r => some ((((r, ()), ())) : K_sp_l2Site.T)).ev := fun _ => by kernel_rfl

noncomputable def B_sp_l2Site_0 : Code := ((loopsOf C_sp_l2Site).find? fun p => Nat.beq p.1 0).elim .skip (·.2)
theorem l_sp_l2Site_0 : (DL_sp_l2Site_0).OK E_sp_l2Site tt Z_sp_l2Site (orcOf O_sp_l2Site) B_sp_l2Site_0 where
  ok := by kernel_rfl
  oke := by kernel_rfl
  okr := by kernel_rfl
  eta := fun _ => rfl
  step := fun _ _ => by kernel_rfl

theorem o_sp_l2Site : LoopsOK E_sp_l2Site tt Z_sp_l2Site O_sp_l2Site C_sp_l2Site := by
  have h : loopsOf C_sp_l2Site = [(0, B_sp_l2Site_0)] := by kernel_rfl
  unfold LoopsOK
  rw [h]
  exact List.forall_mem_cons.2 ⟨fun d h => (by have e : some (DL_sp_l2Site_0) = some d := h; cases e; exact l_sp_l2Site_0), fun _ h => absurd h List.not_mem_nil⟩

theorem ok_sp_l2Site : FnOK prog E_sp_l2Site tt 185 D_sp_l2Site K_sp_l2Site Z_sp_l2Site O_sp_l2Site f185 C_sp_l2Site (fun x => T_sp_l2Site x.1.1.1 x.1.1.2.1 x.1.2.1 x.1.2.2.1) (fun r => ((r, ()), ())) where
  at_ := func185
  name := by kernel_rfl
  body := by kernel_rfl
  res := by kernel_rfl
  ok := by kernel_rfl
  arity := fun _ => Nat.le_of_ble_eq_true (by kernel_rfl)
  pin := fun _ => by kernel_rfl
  chk := by kernel_rfl
  loops := o_sp_l2Site
  run := e_sp_l2Site
  F := fun _ => rfl
  emb := fun _ => rfl

theorem fd_sp_l2Site : FDok prog (185, D_sp_l2Site) := fn_ok mixed (env_ok (fun _ h => absurd h List.not_mem_nil)) tabOK ok_sp_l2Site

theorem e_sp_l2Nearest : ∀ x : D_sp_l2Nearest.T, ((acode E_sp_l2Nearest tt Z_sp_l2Nearest (orcOf O_sp_l2Nearest) C_sp_l2Nearest (entry A_sp_l2Nearest I_sp_l2Nearest x)).map (keepRet tt K_sp_l2Nearest)).ev = ((T_sp_l2Nearest x.1.1.1 x.1.1.2.1 x.1.2.1 x.1.2.2.1).map fun r => some ((((r, ()), ())) : K_sp_l2Nearest.T)).ev := fun _ => by kernel_rfl

theorem o_sp_l2Nearest : LoopsOK E_sp_l2Nearest tt Z_sp_l2Nearest O_sp_l2Nearest C_sp_l2Nearest := by
  have h : loopsOf C_sp_l2Nearest = [] := by kernel_rfl
  unfold LoopsOK
  rw [h]
  exact fun _ h => absurd h List.not_mem_nil

theorem ok_sp_l2Nearest : FnOK prog E_sp_l2Nearest tt 164 D_sp_l2Nearest K_sp_l2Nearest Z_sp_l2Nearest O_sp_l2Nearest f164 C_sp_l2Nearest (fun x => T_sp_l2Nearest x.1.1.1 x.1.1.2.1 x.1.2.1 x.1.2.2.1) (fun r => ((r, ()), ())) where
  at_ := func164
  name := by kernel_rfl
  body := by kernel_rfl
  res := by kernel_rfl
  ok := by kernel_rfl
  arity := fun _ => Nat.le_of_ble_eq_true (by kernel_rfl)
  pin := fun _ => by kernel_rfl
  chk := by kernel_rfl
  loops := o_sp_l2Nearest
  run := e_sp_l2Nearest
  F := fun _ => rfl
  emb := fun _ => rfl

theorem fd_sp_l2Nearest : FDok prog (164, D_sp_l2Nearest) := fn_ok mixed (env_ok (List.forall_mem_cons.2 ⟨fd_sp_l2Site, fun _ h => absurd h List.not_mem_nil⟩)) tabOK ok_sp_l2Nearest

theorem e_sp_l11Ordered : ∀ x : D_sp_l11Ordered.T, ((acode E_sp_l11Ordered tt Z_sp_l11Ordered (orcOf O_sp_l11Ordered) C_sp_l11Ordered (entry A_sp_l11Ordered I_sp_l11Ordered x)).map (keepRet tt K_sp_l11Ordered)).ev = ((T_sp_l11Ordered x.1.1.1 x.1.1.2.1 x.1.2.1 x.1.2.2.1).map fun r => some ((((r, ()), ())) : K_sp_l11Ordered.T)).ev := fun _ => by kernel_rfl

noncomputable def B_sp_l11Ordered_2 : Code := ((loopsOf C_sp_l11Ordered).find? fun p => Nat.beq p.1 2).elim .skip (·.2)
theorem l_sp_l11Ordered_2 : (DL_sp_l11Ordered_2).OK E_sp_l11Ordered tt Z_sp_l11Ordered (orcOf O_sp_l11Ordered) B_sp_l11Ordered_2 where
  ok := by kernel_rfl
  oke := by kernel_rfl
  okr := by kernel_rfl
  eta := fun _ => rfl
  step := fun _ _ => by kernel_rfl

noncomputable def B_sp_l11Ordered_0 : Code := ((loopsOf C_sp_l11Ordered).find? fun p => Nat.beq p.1 0).elim .skip (·.2)
theorem l_sp_l11Ordered_0 : (DL_sp_l11Ordered_0).OK E_sp_l11Ordered tt Z_sp_l11Ordered (orcOf O_sp_l11Ordered) B_sp_l11Ordered_0 where
  ok := by kernel_rfl
  oke := by kernel_rfl
  okr := by kernel_rfl
  eta := fun _ => rfl
  step := fun _ _ => by kernel_rfl

noncomputable def B_sp_l11Ordered_4 : Code := ((loopsOf C_sp_l11Ordered).find? fun p => Nat.beq p.1 4).elim .skip (·.2)
theorem l_sp_l11Ordered_4 : (DL_sp_l11Ordered_4).OK E_sp_l11Ordered tt Z_sp_l11Ordered (orcOf O_sp_l11Ordered) B_sp_l11Ordered_4 where
  ok := by kernel_rfl
  oke := by kernel_rfl
  okr := by kernel_rfl
  eta := fun _ => rfl
  step := fun _ _ => by kernel_rfl

theorem o_sp_l11Ordered : LoopsOK E_sp_l11Ordered tt Z_sp_l11Ordered O_sp_l11Ordered C_sp_l11Ordered := by
  have h : loopsOf C_sp_l11Ordered = [(0, B_sp_l11Ordered_0), (2, B_sp_l11Ordered_2), (4, B_sp_l11Ordered_4)] := by kernel_rfl
  unfold LoopsOK
  rw [h]
  exact List.forall_mem_cons.2 ⟨fun d h => (by have e : some (DL_sp_l11Ordered_0) = some d := h; cases e; exact l_sp_l11Ordered_0), List.forall_mem_cons.2 ⟨fun d h => (by have e : some (DL_sp_l11Ordered_2) = some d := h; cases e; exact l_sp_l11Ordered_2), List.forall_mem_cons.2 ⟨fun d h => (by have e : some (DL_sp_l11Ordered_4) = some d := h; cases e; exact l_sp_l11Ordered_4), fun _ h => absurd h List.not_mem_nil⟩⟩⟩

theorem ok_sp_l11Ordered : FnOK prog E_sp_l11Ordered tt 119 D_sp_l11Ordered K_sp_l11Ordered Z_sp_l11Ordered O_sp_l11Ordered f119 C_sp_l11Ordered (fun x => T_sp_l11Ordered x.1.1.1 x.1.1.2.1 x.1.2.1 x.1.2.2.1) (fun r => ((r, ()), ())) where
  at_ := func119
  name := by kernel_rfl
  body := by kernel_rfl
  res := by kernel_rfl
  ok := by kernel_rfl
  arity := fun _ => Nat.le_of_ble_eq_true (by kernel_rfl)
  pin := fun _ => by kernel_rfl
  chk := by kernel_rfl
  loops := o_sp_l11Ordered
  run := e_sp_l11Ordered
  F := fun _ => rfl
  emb := fun _ => rfl

theorem fd_sp_l11Ordered : FDok prog (119, D_sp_l11Ordered) := fn_ok mixed (env_ok (List.forall_mem_cons.2 ⟨fd_sp_l2Nearest, fun _ h => absurd h List.not_mem_nil⟩)) tabOK ok_sp_l11Ordered

theorem e_sp_OrderedValue : ∀ x : D_sp_OrderedValue.T, ((acode E_sp_OrderedValue tt Z_sp_OrderedValue (orcOf O_sp_OrderedValue) C_sp_OrderedValue (entry A_sp_OrderedValue I_sp_OrderedValue x)).map (keepRet tt K_sp_OrderedValue)).ev = ((T_sp_OrderedValue x.1.1.1 x.1.1.2.1 x.1.2.1 x.1.2.2.1).map fun r => some ((((r.1, (r.2, ())), ())) : K_sp_OrderedValue.T)).ev := fun _ => by kernel_rfl

theorem o_sp_OrderedValue : LoopsOK E_sp_OrderedValue tt Z_sp_OrderedValue O_sp_OrderedValue C_sp_OrderedValue := by
  have h : loopsOf C_sp_OrderedValue = [] := by kernel_rfl
  unfold LoopsOK
  rw [h]
  exact fun _ h => absurd h List.not_mem_nil

theorem ok_sp_OrderedValue : FnOK prog E_sp_OrderedValue tt 61 D_sp_OrderedValue K_sp_OrderedValue Z_sp_OrderedValue O_sp_OrderedValue f61 C_sp_OrderedValue (fun x => T_sp_OrderedValue x.1.1.1 x.1.1.2.1 x.1.2.1 x.1.2.2.1) (fun r => ((r.1, (r.2, ())), ())) where
  at_ := func61
  name := by kernel_rfl
  body := by kernel_rfl
  res := by kernel_rfl
  ok := by kernel_rfl
  arity := fun _ => Nat.le_of_ble_eq_true (by kernel_rfl)
  pin := fun _ => by kernel_rfl
  chk := by kernel_rfl
  loops := o_sp_OrderedValue
  run := e_sp_OrderedValue
  F := fun _ => rfl
  emb := fun _ => rfl

theorem fd_sp_OrderedValue : FDok prog (61, D_sp_OrderedValue) := fn_ok mixed (env_ok (List.forall_mem_cons.2 ⟨fd_sp_l2Two, List.forall_mem_cons.2 ⟨fd_sp_l2Row, List.forall_mem_cons.2 ⟨fd_sp_l11Ordered, fun _ h => absurd h List.not_mem_nil⟩⟩⟩)) tabOK ok_sp_OrderedValue

theorem e_im_between : ∀ x : D_im_between.T, ((acode E_im_between tt Z_im_between (orcOf O_im_between) C_im_between (entry A_im_between I_im_between x)).map (keepRet tt K_im_between)).ev = ((T_im_between x.1.1 x.1.2.1 x.1.2.2.1).map fun r => some ((((r, ()), ())) : K_im_between.T)).ev := fun _ => by kernel_rfl

theorem o_im_between : LoopsOK E_im_between tt Z_im_between O_im_between C_im_between := by
  have h : loopsOf C_im_between = [] := by kernel_rfl
  unfold LoopsOK
  rw [h]
  exact fun _ h => absurd h List.not_mem_nil

theorem ok_im_between : FnOK prog E_im_between tt 73 D_im_between K_im_between Z_im_between O_im_between f73 C_im_between (fun x => T_im_between x.1.1 x.1.2.1 x.1.2.2.1) (fun r => ((r, ()), ())) where
  at_ := func73
  name := by kernel_rfl
  body := by kernel_rfl
  res := by kernel_rfl
  ok := by kernel_rfl
  arity := fun _ => Nat.le_of_ble_eq_true (by kernel_rfl)
  pin := fun _ => by kernel_rfl
  chk := by kernel_rfl
  loops := o_im_between
  run := e_im_between
  F := fun _ => rfl
  emb := fun _ => rfl

theorem fd_im_between : FDok prog (73, D_im_between) := fn_ok mixed (env_ok (fun _ h => absurd h List.not_mem_nil)) tabOK ok_im_between

theorem e_slices_IndexFunc_Sint_int : ∀ x : D_slices_IndexFunc_Sint_int.T, ((acode E_slices_IndexFunc_Sint_int tt Z_slices_IndexFunc_Sint_int (orcOf O_slices_IndexFunc_Sint_int) C_slices_IndexFunc_Sint_int (entry A_slices_IndexFunc_Sint_int I_slices_IndexFunc_Sint_int x)).map (keepRet tt K_slices_IndexFunc_Sint_int)).ev = ((T_slices_IndexFunc_Sint_int x.1.1 x.1.2.1).map fun r => some ((((r, ()), ())) : K_slices_IndexFunc_Sint_int.T)).ev := fun _ => by kernel_rfl

noncomputable def B_slices_IndexFunc_Sint_int_0 : Code := ((loopsOf C_slices_IndexFunc_Sint_int).find? fun p => Nat.beq p.1 0).elim .skip (·.2)
theorem l_slices_IndexFunc_Sint_int_0 : (DL_slices_IndexFunc_Sint_int_0).OK E_slices_IndexFunc_Sint_int tt Z_slices_IndexFunc_Sint_int (orcOf O_slices_IndexFunc_Sint_int) B_slices_IndexFunc_Sint_int_0 where
  ok := by kernel_rfl
  oke := by kernel_rfl
  okr := by kernel_rfl
  eta := fun _ => rfl
  step := fun _ _ => by kernel_rfl

theorem o_slices_IndexFunc_Sint_int : LoopsOK E_slices_IndexFunc_Sint_int tt Z_slices_IndexFunc_Sint_int O_slices_IndexFunc_Sint_int C_slices_IndexFunc_Sint_int := by
  have h : loopsOf C_slices_IndexFunc_Sint_int = [(0, B_slices_IndexFunc_Sint_int_0)] := by kernel_rfl
  unfold LoopsOK
  rw [h]
  exact List.forall_mem_cons.2 ⟨fun d h => (by have e : some (DL_slices_IndexFunc_Sint_int_0) = some d := h; cases e; exact l_slices_IndexFunc_Sint_int_0), fun _ h => absurd h List.not_mem_nil⟩

theorem ok_slices_IndexFunc_Sint_int : FnOK prog E_slices_IndexFunc_Sint_int tt 170 D_slices_IndexFunc_Sint_int K_slices_IndexFunc_Sint_int Z_slices_IndexFunc_Sint_int O_slices_IndexFunc_Sint_int f170 C_slices_IndexFunc_Sint_int (fun x => T_slices_IndexFunc_Sint_int x.1.1 x.1.2.1) (fun r => ((r, ()), ())) where
  at_ := func170
  name := by kernel_rfl
  body := by kernel_rfl
  res := by kernel_rfl
  ok := by kernel_rfl
  arity := fun _ => Nat.le_of_ble_eq_true (by kernel_rfl)
  pin := fun _ => by kernel_rfl
  chk := by kernel_rfl
  loops := o_slices_IndexFunc_Sint_int
  run := e_slices_IndexFunc_Sint_int
  F := fun _ => rfl
  emb := fun _ => rfl

theorem fd_slices_IndexFunc_Sint_int : FDok prog (170, D_slices_IndexFunc_Sint_int) := fn_ok mixed (env_ok (fun _ h => absurd h List.not_mem_nil)) tabOK ok_slices_IndexFunc_Sint_int

theorem e_slices_ContainsFunc_Sint_int : ∀ x : D_slices_ContainsFunc_Sint_int.T, ((acode E_slices_ContainsFunc_Sint_int tt Z_slices_ContainsFunc_Sint_int (orcOf O_slices_ContainsFunc_Sint_int) C_slices_ContainsFunc_Sint_int (entry A_slices_ContainsFunc_Sint_int I_slices_ContainsFunc_Sint_int x)).map (keepRet tt K_slices_ContainsFunc_Sint_int)).ev = ((T_slices_ContainsFunc_Sint_int x.1.1 x.1.2.1).map fun r => some ((((r, ()), ())) : K_slices_ContainsFunc_Sint_int.T)).ev := fun _ => by kernel_rfl

theorem o_slices_ContainsFunc_Sint_int : LoopsOK E_slices_ContainsFunc_Sint_int tt Z_slices_ContainsFunc_Sint_int O_slices_ContainsFunc_Sint_int C_slices_ContainsFunc_Sint_int := by
  have h : loopsOf C_slices_ContainsFunc_Sint_int = [] := by kernel_rfl
  unfold LoopsOK
  rw [h]
  exact fun _ h => absurd h List.not_mem_nil

theorem ok_slices_ContainsFunc_Sint_int : FnOK prog E_slices_ContainsFunc_Sint_int tt 125 D_slices_ContainsFunc_Sint_int K_slices_ContainsFunc_Sint_int Z_slices_ContainsFunc_Sint_int O_slices_ContainsFunc_Sint_int f125 C_slices_ContainsFunc_Sint_int (fun x => T_slices_ContainsFunc_Sint_int x.1.1 x.1.2.1) (fun r => ((r, ()), ())) where
  at_ := func125
  name := by kernel_rfl
  body := by kernel_rfl
  res := by kernel_rfl
  ok := by kernel_rfl
  arity := fun _ => Nat.le_of_ble_eq_true (by kernel_rfl)
  pin := fun _ => by kernel_rfl
  chk := by kernel_rfl
  loops := o_slices_ContainsFunc_Sint_int
  run := e_slices_ContainsFunc_Sint_int
  F := fun _ => rfl
  emb := fun _ => rfl

theorem fd_slices_ContainsFunc_Sint_int : FDok prog (125, D_slices_ContainsFunc_Sint_int) := fn_ok mixed (env_ok (List.forall_mem_cons.2 ⟨fd_slices_IndexFunc_Sint_int, fun _ h => absurd h List.not_mem_nil⟩)) tabOK ok_slices_ContainsFunc_Sint_int

theorem e_im_areBetween_1 : ∀ x : D_im_areBetween_1.T, ((acode E_im_areBetween_1 tt Z_im_areBetween_1 (orcOf O_im_areBetween_1) C_im_areBetween_1 (entry A_im_areBetween_1 I_im_areBetween_1 x)).map (keepRet tt K_im_areBetween_1)).ev = ((T_im_areBetween_1 x.1.1 x.1.2.1.1 x.1.2.2.1.1).map fun r => some ((((r, ()), ())) : K_im_areBetween_1.T)).ev := fun _ => by kernel_rfl

theorem o_im_areBetween_1 : LoopsOK E_im_areBetween_1 tt Z_im_areBetween_1 O_im_areBetween_1 C_im_areBetween_1 := by
  have h : loopsOf C_im_areBetween_1 = [] := by kernel_rfl
  unfold LoopsOK
  rw [h]
  exact fun _ h => absurd h List.not_mem_nil

theorem ok_im_areBetween_1 : FnOK prog E_im_areBetween_1 tt 177 D_im_areBetween_1 K_im_areBetween_1 Z_im_areBetween_1 O_im_areBetween_1 f177 C_im_areBetween_1 (fun x => T_im_areBetween_1 x.1.1 x.1.2.1.1 x.1.2.2.1.1) (fun r => ((r, ()), ())) where
  at_ := func177
  name := by kernel_rfl
  body := by kernel_rfl
  res := by kernel_rfl
  ok := by kernel_rfl
  arity := fun _ => Nat.le_of_ble_eq_true (by kernel_rfl)
  pin := fun _ => by kernel_rfl
  chk := by kernel_rfl
  loops := o_im_areBetween_1
  run := e_im_areBetween_1
  F := fun _ => rfl
  emb := fun _ => rfl

theorem fd_im_areBetween_1 : FDok prog (177, D_im_areBetween_1) := fn_ok mixed (env_ok (List.forall_mem_cons.2 ⟨fd_im_between, fun _ h => absurd h List.not_mem_nil⟩)) tabOK ok_im_areBetween_1

theorem e_im_areBetween : ∀ x : D_im_areBetween.T, ((acode E_im_areBetween tt Z_im_areBetween (orcOf O_im_areBetween) C_im_areBetween (entry A_im_areBetween I_im_areBetween x)).map (keepRet tt K_im_areBetween)).ev = ((T_im_areBetween x.1.1 x.1.2.1 x.1.2.2.1).map fun r => some ((((r, ()), ())) : K_im_areBetween.T)).ev := fun _ => by kernel_rfl

theorem o_im_areBetween : LoopsOK E_im_areBetween tt Z_im_areBetween O_im_areBetween C_im_areBetween := by
  have h : loopsOf C_im_areBetween = [] := by kernel_rfl
  unfold LoopsOK
  rw [h]
  exact fun _ h => absurd h List.not_mem_nil

theorem ok_im_areBetween : FnOK prog E_im_areBetween tt 136 D_im_areBetween K_im_areBetween Z_im_areBetween O_im_areBetween f136 C_im_areBetween (fun x => T_im_areBetween x.1.1 x.1.2.1 x.1.2.2.1) (fun r => ((r, ()), ())) where
  at_ := func136
  name := by kernel_rfl
  body := by kernel_rfl
  res := by kernel_rfl
  ok := by kernel_rfl
  arity := fun _ => Nat.le_of_ble_eq_true (by kernel_rfl)
  pin := fun _ => by kernel_rfl
  chk := by kernel_rfl
  loops := o_im_areBetween
  run := e_im_areBetween
  F := fun _ => rfl
  emb := fun _ => rfl

theorem fd_im_areBetween : FDok prog (136, D_im_areBetween) := fn_ok mixed (env_ok (List.forall_mem_cons.2 ⟨fd_slices_ContainsFunc_Sint_int, List.forall_mem_cons.2 ⟨fd_im_areBetween_1, fun _ h => absurd h List.not_mem_nil⟩⟩)) tabOK ok_im_areBetween

theorem e_slices_IndexFunc_SSint_Sint : ∀ x : D_slices_IndexFunc_SSint_Sint.T, ((acode E_slices_IndexFunc_SSint_Sint tt Z_slices_IndexFunc_SSint_Sint (orcOf O_slices_IndexFunc_SSint_Sint) C_slices_IndexFunc_SSint_Sint (entry A_slices_IndexFunc_SSint_Sint I_slices_IndexFunc_SSint_Sint x)).map (keepRet tt K_slices_IndexFunc_SSint_Sint)).ev = ((T_slices_IndexFunc_SSint_Sint x.1.1 x.1.2.1).map fun r => some ((((r, ()), ())) : K_slices_IndexFunc_SSint_Sint.T)).ev := fun _ => by kernel_rfl

noncomputable def B_slices_IndexFunc_SSint_Sint_0 : Code := ((loopsOf C_slices_IndexFunc_SSint_Sint).find? fun p => Nat.beq p.1 0).elim .skip (·.2)
theorem l_slices_IndexFunc_SSint_Sint_0 : (DL_slices_IndexFunc_SSint_Sint_0).OK E_slices_IndexFunc_SSint_Sint tt Z_slices_IndexFunc_SSint_Sint (orcOf O_slices_IndexFunc_SSint_Sint) B_slices_IndexFunc_SSint_Sint_0 where
  ok := by kernel_rfl
  oke := by kernel_rfl
  okr := by kernel_rfl
  eta := fun _ => rfl
  step := fun _ _ => by kernel_rfl

theorem o_slices_IndexFunc_SSint_Sint : LoopsOK E_slices_IndexFunc_SSint_Sint tt Z_slices_IndexFunc_SSint_Sint O_slices_IndexFunc_SSint_Sint C_slices_IndexFunc_SSint_Sint := by
  have h : loopsOf C_slices_IndexFunc_SSint_Sint = [(0, B_slices_IndexFunc_SSint_Sint_0)] := by kernel_rfl
  unfold LoopsOK
  rw [h]
  exact List.forall_mem_cons.2 ⟨fun d h => (by have e : some (DL_slices_IndexFunc_SSint_Sint_0) = some d := h; cases e; exact l_slices_IndexFunc_SSint_Sint_0), fun _ h => absurd h List.not_mem_nil⟩

theorem ok_slices_IndexFunc_SSint_Sint : FnOK prog E_slices_IndexFunc_SSint_Sint tt 74 D_slices_IndexFunc_SSint_Sint K_slices_IndexFunc_SSint_Sint Z_slices_IndexFunc_SSint_Sint O_slices_IndexFunc_SSint_Sint f74 C_slices_IndexFunc_SSint_Sint (fun x => T_slices_IndexFunc_SSint_Sint x.1.1 x.1.2.1) (fun r => ((r, ()), ())) where
  at_ := func74
  name := by kernel_rfl
  body := by kernel_rfl
  res := by kernel_rfl
  ok := by kernel_rfl
  arity := fun _ => Nat.le_of_ble_eq_true (by kernel_rfl)
  pin := fun _ => by kernel_rfl
  chk := by kernel_rfl
  loops := o_slices_IndexFunc_SSint_Sint
  run := e_slices_IndexFunc_SSint_Sint
  F := fun _ => rfl
  emb := fun _ => rfl

theorem fd_slices_IndexFunc_SSint_Sint : FDok prog (74, D_slices_IndexFunc_SSint_Sint) := fn_ok mixed (env_ok (fun _ h => absurd h List.not_mem_nil)) tabOK ok_slices_IndexFunc_SSint_Sint

theorem e_slices_ContainsFunc_SSint_Sint : ∀ x : D_slices_ContainsFunc_SSint_Sint.T, ((acode E_slices_ContainsFunc_SSint_Sint tt Z_slices_ContainsFunc_SSint_Sint (orcOf O_slices_ContainsFunc_SSint_Sint) C_slices_ContainsFunc_SSint_Sint (entry A_slices_ContainsFunc_SSint_Sint I_slices_ContainsFunc_SSint_Sint x)).map (keepRet tt K_slices_ContainsFunc_SSint_Sint)).ev = ((T_slices_ContainsFunc_SSint_Sint x.1.1 x.1.2.1).map fun r => some ((((r, ()), ())) : K_slices_ContainsFunc_SSint_Sint.T)).ev := fun _ => by kernel_rfl

theorem o_slices_ContainsFunc_SSint_Sint : LoopsOK E_slices_ContainsFunc_SSint_Sint tt Z_slices_ContainsFunc_SSint_Sint O_slices_ContainsFunc_SSint_Sint C_slices_ContainsFunc_SSint_Sint := by
  have h : loopsOf C_slices_ContainsFunc_SSint_Sint = [] := by kernel_rfl
  unfold LoopsOK
  rw [h]
  exact fun _ h => absurd h List.not_mem_nil

theorem ok_slices_ContainsFunc_SSint_Sint : FnOK prog E_slices_ContainsFunc_SSint_Sint tt 141 D_slices_ContainsFunc_SSint_Sint K_slices_ContainsFunc_SSint_Sint Z_slices_ContainsFunc_SSint_Sint O_slices_ContainsFunc_SSint_Sint f141 C_slices_ContainsFunc_SSint_Sint (fun x => T_slices_ContainsFunc_SSint_Sint x.1.1 x.1.2.1) (fun r => ((r, ()), ())) where
  at_ := func141
  name := by kernel_rfl
  body := by kernel_rfl
  res := by kernel_rfl
  ok := by kernel_rfl
  arity := fun _ => Nat.le_of_ble_eq_true (by kernel_rfl)
  pin := fun _ => by kernel_rfl
  chk := by kernel_rfl
  loops := o_slices_ContainsFunc_SSint_Sint
  run := e_slices_ContainsFunc_SSint_Sint
  F := fun _ => rfl
  emb := fun _ => rfl

theorem fd_slices_ContainsFunc_SSint_Sint : FDok prog (141, D_slices_ContainsFunc_SSint_Sint) := fn_ok mixed (env_ok (List.forall_mem_cons.2 ⟨fd_slices_IndexFunc_SSint_Sint, fun _ h => absurd h List.not_mem_nil⟩)) tabOK ok_slices_ContainsFunc_SSint_Sint

theorem e_im_IsField_1 : ∀ x : D_im_IsField_1.T, ((acode E_im_IsField_1 tt Z_im_IsField_1 (orcOf O_im_IsField_1) C_im_IsField_1 (entry A_im_IsField_1 I_im_IsField_1 x)).map (keepRet tt K_im_IsField_1)).ev = ((T_im_IsField_1 x.1.1 x.1.2.1.1 x.1.2.1.2.1).map fun r => some ((((r, ()), ())) : K_im_IsField_1.T)).ev := fun _ => by kernel_rfl

theorem o_im_IsField_1 : LoopsOK E_im_IsField_1 tt Z_im_IsField_1 O_im_IsField_1 C_im_IsField_1 := by
  have h : loopsOf C_im_IsField_1 = [] := by kernel_rfl
  unfold LoopsOK
  rw [h]
  exact fun _ h => absurd h List.not_mem_nil

theorem ok_im_IsField_1 : FnOK prog E_im_IsField_1 tt 142 D_im_IsField_1 K_im_IsField_1 Z_im_IsField_1 O_im_IsField_1 f142 C_im_IsField_1 (fun x => T_im_IsField_1 x.1.1 x.1.2.1.1 x.1.2.1.2.1) (fun r => ((r, ()), ())) where
  at_ := func142
  name := by kernel_rfl
  body := by kernel_rfl
  res := by kernel_rfl
  ok := by kernel_rfl
  arity := fun _ => Nat.le_of_ble_eq_true (by kernel_rfl)
  pin := fun _ => by kernel_rfl
  chk := by kernel_rfl
  loops := o_im_IsField_1
  run := e_im_IsField_1
  F := fun _ => rfl
  emb := fun _ => rfl

theorem fd_im_IsField_1 : FDok prog (142, D_im_IsField_1) := fn_ok mixed (env_ok (List.forall_mem_cons.2 ⟨fd_im_areBetween, fun _ h => absurd h List.not_mem_nil⟩)) tabOK ok_im_IsField_1

theorem e_im_IsField : ∀ x : D_im_IsField.T, ((acode E_im_IsField tt Z_im_IsField (orcOf O_im_IsField) C_im_IsField (entry A_im_IsField I_im_IsField x)).map (keepRet tt K_im_IsField)).ev = ((T_im_IsField x.1.1.1 x.1.1.2.1).map fun r => some ((((r, ()), ())) : K_im_IsField.T)).ev := fun _ => by kernel_rfl

theorem o_im_IsField : LoopsOK E_im_IsField tt Z_im_IsField O_im_IsField C_im_IsField := by
  have h : loopsOf C_im_IsField = [] := by kernel_rfl
  unfold LoopsOK
  rw [h]
  exact fun _ h => absurd h List.not_mem_nil

theorem ok_im_IsField : FnOK prog E_im_IsField tt 79 D_im_IsField K_im_IsField Z_im_IsField O_im_IsField f79 C_im_IsField (fun x => T_im_IsField x.1.1.1 x.1.1.2.1) (fun r => ((r, ()), ())) where
  at_ := func79
  name := by kernel_rfl
  body := by kernel_rfl
  res := by kernel_rfl
  ok := by kernel_rfl
  arity := fun _ => Nat.le_of_ble_eq_true (by kernel_rfl)
  pin := fun _ => by kernel_rfl
  chk := by kernel_rfl
  loops := o_im_IsField
  run := e_im_IsField
  F := fun _ => rfl
  emb := fun _ => rfl

theorem fd_im_IsField : FDok prog (79, D_im_IsField) := fn_ok mixed (env_ok (List.forall_mem_cons.2 ⟨fd_im_between, List.forall_mem_cons.2 ⟨fd_im_areBetween, List.forall_mem_cons.2 ⟨fd_slices_ContainsFunc_SSint_Sint, List.forall_mem_cons.2 ⟨fd_im_IsField_1, fun _ h => absurd h List.not_mem_nil⟩⟩⟩⟩)) tabOK ok_im_IsField

theorem e_im_isRising : ∀ x : D_im_isRising.T, ((acode E_im_isRising tt Z_im_isRising (orcOf O_im_isRising) C_im_isRising (entry A_im_isRising I_im_isRising x)).map (keepRet tt K_im_isRising)).ev = ((T_im_isRising x.1.1 x.1.2.1).map fun r => some ((((r, ()), ())) : K_im_isRising.T)).ev := fun _ => by kernel_rfl

noncomputable def B_im_isRising_0 : Code := ((loopsOf C_im_isRising).find? fun p => Nat.beq p.1 0).elim .skip (·.2)
theorem l_im_isRising_0 : (DL_im_isRising_0).OK E_im_isRising tt Z_im_isRising (orcOf O_im_isRising) B_im_isRising_0 where
  ok := by kernel_rfl
  oke := by kernel_rfl
  okr := by kernel_rfl
  eta := fun _ => rfl
  step := fun _ _ => by kernel_rfl

theorem o_im_isRising : LoopsOK E_im_isRising tt Z_im_isRising O_im_isRising C_im_isRising := by
  have h : loopsOf C_im_isRising = [(0, B_im_isRising_0)] := by kernel_rfl
  unfold LoopsOK
  rw [h]
  exact List.forall_mem_cons.2 ⟨fun d h => (by have e : some (DL_im_isRising_0) = some d := h; cases e; exact l_im_isRising_0), fun _ h => absurd h List.not_mem_nil⟩

theorem ok_im_isRising : FnOK prog E_im_isRising tt 146 D_im_isRising K_im_isRising Z_im_isRising O_im_isRising f146 C_im_isRising (fun x => T_im_isRising x.1.1 x.1.2.1) (fun r => ((r, ()), ())) where
  at_ := func146
  name := by kernel_rfl
  body := by kernel_rfl
  res := by kernel_rfl
  ok := by kernel_rfl
  arity := fun _ => Nat.le_of_ble_eq_true (by kernel_rfl)
  pin := fun _ => by kernel_rfl
  chk := by kernel_rfl
  loops := o_im_isRising
  run := e_im_isRising
  F := fun _ => rfl
  emb := fun _ => rfl

theorem fd_im_isRising : FDok prog (146, D_im_isRising) := fn_ok mixed (env_ok (List.forall_mem_cons.2 ⟨fd_im_between, fun _ h => absurd h List.not_mem_nil⟩)) tabOK ok_im_isRising

theorem e_im_Field_isSet : ∀ x : D_im_Field_isSet.T, ((acode E_im_Field_isSet tt Z_im_Field_isSet (orcOf O_im_Field_isSet) C_im_Field_isSet (entry A_im_Field_isSet I_im_Field_isSet x)).map (keepRet tt K_im_Field_isSet)).ev = ((T_im_Field_isSet x.1.1.1 x.1.1.2.1 x.1.2.1).map fun r => some ((((r, ()), ())) : K_im_Field_isSet.T)).ev := fun _ => by kernel_rfl

theorem o_im_Field_isSet : LoopsOK E_im_Field_isSet tt Z_im_Field_isSet O_im_Field_isSet C_im_Field_isSet := by
  have h : loopsOf C_im_Field_isSet = [] := by kernel_rfl
  unfold LoopsOK
  rw [h]
  exact fun _ h => absurd h List.not_mem_nil

theorem ok_im_Field_isSet : FnOK prog E_im_Field_isSet tt 149 D_im_Field_isSet K_im_Field_isSet Z_im_Field_isSet O_im_Field_isSet f149 C_im_Field_isSet (fun x => T_im_Field_isSet x.1.1.1 x.1.1.2.1 x.1.2.1) (fun r => ((r, ()), ())) where
  at_ := func149
  name := by kernel_rfl
  body := by kernel_rfl
  res := by kernel_rfl
  ok := by kernel_rfl
  arity := fun _ => Nat.le_of_ble_eq_true (by kernel_rfl)
  pin := fun _ => by kernel_rfl
  chk := by kernel_rfl
  loops := o_im_Field_isSet
  run := e_im_Field_isSet
  F := fun _ => rfl
  emb := fun _ => rfl

theorem fd_im_Field_isSet : FDok prog (149, D_im_Field_isSet) := fn_ok mixed (env_ok (List.forall_mem_cons.2 ⟨fd_im_isRising, fun _ h => absurd h List.not_mem_nil⟩)) tabOK ok_im_Field_isSet

theorem e_im_isOpened : ∀ x : D_im_isOpened.T, ((acode E_im_isOpened tt Z_im_isOpened (orcOf O_im_isOpened) C_im_isOpened (entry A_im_isOpened I_im_isOpened x)).map (keepRet tt K_im_isOpened)).ev = ((T_im_isOpened x.1.1.1 x.1.1.2.1 x.1.2.1).map fun r => some ((((r, ()), ())) : K_im_isOpened.T)).ev := fun _ => by kernel_rfl

theorem o_im_isOpened : LoopsOK E_im_isOpened tt Z_im_isOpened O_im_isOpened C_im_isOpened := by
  have h : loopsOf C_im_isOpened = [] := by kernel_rfl
  unfold LoopsOK
  rw [h]
  exact fun _ h => absurd h List.not_mem_nil

theorem ok_im_isOpened : FnOK prog E_im_isOpened tt 88 D_im_isOpened K_im_isOpened Z_im_isOpened O_im_isOpened f88 C_im_isOpened (fun x => T_im_isOpened x.1.1.1 x.1.1.2.1 x.1.2.1) (fun r => ((r, ()), ())) where
  at_ := func88
  name := by kernel_rfl
  body := by kernel_rfl
  res := by kernel_rfl
  ok := by kernel_rfl
  arity := fun _ => Nat.le_of_ble_eq_true (by kernel_rfl)
  pin := fun _ => by kernel_rfl
  chk := by kernel_rfl
  loops := o_im_isOpened
  run := e_im_isOpened
  F := fun _ => rfl
  emb := fun _ => rfl

theorem fd_im_isOpened : FDok prog (88, D_im_isOpened) := fn_ok mixed (env_ok (List.forall_mem_cons.2 ⟨fd_im_IsField, List.forall_mem_cons.2 ⟨fd_im_Field_isSet, fun _ h => absurd h List.not_mem_nil⟩⟩)) tabOK ok_im_isOpened

theorem e_im_Field_areWeights : ∀ x : D_im_Field_areWeights.T, ((acode E_im_Field_areWeights tt Z_im_Field_areWeights (orcOf O_im_Field_areWeights) C_im_Field_areWeights (entry A_im_Field_areWeights I_im_Field_areWeights x)).map (keepRet tt K_im_Field_areWeights)).ev = ((T_im_Field_areWeights x.1.1.1 x.1.1.2.1 x.1.2.1).map fun r => some ((((r, ()), ())) : K_im_Field_areWeights.T)).ev := fun _ => by kernel_rfl

theorem o_im_Field_areWeights : LoopsOK E_im_Field_areWeights tt Z_im_Field_areWeights O_im_Field_areWeights C_im_Field_areWeights := by
  have h : loopsOf C_im_Field_areWeights = [] := by kernel_rfl
  unfold LoopsOK
  rw [h]
  exact fun _ h => absurd h List.not_mem_nil

theorem ok_im_Field_areWeights : FnOK prog E_im_Field_areWeights tt 120 D_im_Field_areWeights K_im_Field_areWeights Z_im_Field_areWeights O_im_Field_areWeights f120 C_im_Field_areWeights (fun x => T_im_Field_areWeights x.1.1.1 x.1.1.2.1 x.1.2.1) (fun r => ((r, ()), ())) where
  at_ := func120
  name := by kernel_rfl
  body := by kernel_rfl
  res := by kernel_rfl
  ok := by kernel_rfl
  arity := fun _ => Nat.le_of_ble_eq_true (by kernel_rfl)
  pin := fun _ => by kernel_rfl
  chk := by kernel_rfl
  loops := o_im_Field_areWeights
  run := e_im_Field_areWeights
  F := fun _ => rfl
  emb := fun _ => rfl

theorem fd_im_Field_areWeights : FDok prog (120, D_im_Field_areWeights) := fn_ok mixed (env_ok (List.forall_mem_cons.2 ⟨fd_im_areBetween, fun _ h => absurd h List.not_mem_nil⟩)) tabOK ok_im_Field_areWeights

theorem e_im_Field_server : ∀ x : D_im_Field_server.T, ((acode E_im_Field_server tt Z_im_Field_server (orcOf O_im_Field_server) C_im_Field_server (entry A_im_Field_server I_im_Field_server x)).map (keepRet tt K_im_Field_server)).ev = ((T_im_Field_server x.1.1.1 x.1.1.2.1 x.1.2.1 x.1.2.2.1).map fun r => some ((((r, ()), ())) : K_im_Field_server.T)).ev := fun _ => by kernel_rfl

noncomputable def B_im_Field_server_0 : Code := ((loopsOf C_im_Field_server).find? fun p => Nat.beq p.1 0).elim .skip (·.2)
theorem l_im_Field_server_0 : (DL_im_Field_server_0).OK E_im_Field_server tt Z_im_Field_server (orcOf O_im_Field_server) B_im_Field_server_0 where
  ok := by kernel_rfl
  oke := by kernel_rfl
  okr := by kernel_rfl
  eta := fun _ => rfl
  step := fun _ _ => by kernel_rfl

theorem o_im_Field_server : LoopsOK E_im_Field_server tt Z_im_Field_server O_im_Field_server C_im_Field_server := by
  have h : loopsOf C_im_Field_server = [(0, B_im_Field_server_0)] := by kernel_rfl
  unfold LoopsOK
  rw [h]
  exact List.forall_mem_cons.2 ⟨fun d h => (by have e : some (DL_im_Field_server_0) = some d := h; cases e; exact l_im_Field_server_0), fun _ h => absurd h List.not_mem_nil⟩

theorem ok_im_Field_server : FnOK prog E_im_Field_server tt 194 D_im_Field_server K_im_Field_server Z_im_Field_server O_im_Field_server f194 C_im_Field_server (fun x => T_im_Field_server x.1.1.1 x.1.1.2.1 x.1.2.1 x.1.2.2.1) (fun r => ((r, ()), ())) where
  at_ := func194
  name := by kernel_rfl
  body := by kernel_rfl
  res := by kernel_rfl
  ok := by kernel_rfl
  arity := fun _ => Nat.le_of_ble_eq_true (by kernel_rfl)
  pin := fun _ => by kernel_rfl
  chk := by kernel_rfl
  loops := o_im_Field_server
  run := e_im_Field_server
  F := fun _ => rfl
  emb := fun _ => rfl

theorem fd_im_Field_server : FDok prog (194, D_im_Field_server) := fn_ok mixed (env_ok (fun _ h => absurd h List.not_mem_nil)) tabOK ok_im_Field_server

theorem e_im_Field_served : ∀ x : D_im_Field_served.T, ((acode E_im_Field_served tt Z_im_Field_served (orcOf O_im_Field_served) C_im_Field_served (entry A_im_Field_served I_im_Field_served x)).map (keepRet tt K_im_Field_served)).ev = ((T_im_Field_served x.1.1.1 x.1.1.2.1 x.1.2.1).map fun r => some (((((), ()), (r, ()))) : K_im_Field_served.T)).ev := fun _ => by kernel_rfl

noncomputable def B_im_Field_served_0 : Code := ((loopsOf C_im_Field_served).find? fun p => Nat.beq p.1 0).elim .skip (·.2)
theorem l_im_Field_served_0 : (DL_im_Field_served_0).OK E_im_Field_served tt Z_im_Field_served (orcOf O_im_Field_served) B_im_Field_served_0 where
  ok := by kernel_rfl
  oke := by kernel_rfl
  okr := by kernel_rfl
  eta := fun _ => rfl
  step := fun _ _ => by kernel_rfl

theorem o_im_Field_served : LoopsOK E_im_Field_served tt Z_im_Field_served O_im_Field_served C_im_Field_served := by
  have h : loopsOf C_im_Field_served = [(0, B_im_Field_served_0)] := by kernel_rfl
  unfold LoopsOK
  rw [h]
  exact List.forall_mem_cons.2 ⟨fun d h => (by have e : some (DL_im_Field_served_0) = some d := h; cases e; exact l_im_Field_served_0), fun _ h => absurd h List.not_mem_nil⟩

theorem ok_im_Field_served : FnOK prog E_im_Field_served tt 186 D_im_Field_served K_im_Field_served Z_im_Field_served O_im_Field_served f186 C_im_Field_served (fun x => T_im_Field_served x.1.1.1 x.1.1.2.1 x.1.2.1) (fun r => (((), ()), (r, ()))) where
  at_ := func186
  name := by kernel_rfl
  body := by kernel_rfl
  res := by kernel_rfl
  ok := by kernel_rfl
  arity := fun _ => Nat.le_of_ble_eq_true (by kernel_rfl)
  pin := fun _ => by kernel_rfl
  chk := by kernel_rfl
  loops := o_im_Field_served
  run := e_im_Field_served
  F := fun _ => rfl
  emb := fun _ => rfl

theorem fd_im_Field_served : FDok prog (186, D_im_Field_served) := fn_ok mixed (env_ok (List.forall_mem_cons.2 ⟨fd_im_Field_server, fun _ h => absurd h List.not_mem_nil⟩)) tabOK ok_im_Field_served

theorem e_im_Field_lengths : ∀ x : D_im_Field_lengths.T, ((acode E_im_Field_lengths tt Z_im_Field_lengths (orcOf O_im_Field_lengths) C_im_Field_lengths (entry A_im_Field_lengths I_im_Field_lengths x)).map (keepRet tt K_im_Field_lengths)).ev = ((T_im_Field_lengths x.1.1.1 x.1.1.2.1 x.1.2.1).map fun r => some (((((), ()), (r, ()))) : K_im_Field_lengths.T)).ev := fun _ => by kernel_rfl

noncomputable def B_im_Field_lengths_0 : Code := ((loopsOf C_im_Field_lengths).find? fun p => Nat.beq p.1 0).elim .skip (·.2)
theorem l_im_Field_lengths_0 : (DL_im_Field_lengths_0).OK E_im_Field_lengths tt Z_im_Field_lengths (orcOf O_im_Field_lengths) B_im_Field_lengths_0 where
  ok := by kernel_rfl
  oke := by kernel_rfl
  okr := by kernel_rfl
  eta := fun _ => rfl
  step := fun _ _ => by kernel_rfl

theorem o_im_Field_lengths : LoopsOK E_im_Field_lengths tt Z_im_Field_lengths O_im_Field_lengths C_im_Field_lengths := by
  have h : loopsOf C_im_Field_lengths = [(0, B_im_Field_lengths_0)] := by kernel_rfl
  unfold LoopsOK
  rw [h]
  exact List.forall_mem_cons.2 ⟨fun d h => (by have e : some (DL_im_Field_lengths_0) = some d := h; cases e; exact l_im_Field_lengths_0), fun _ h => absurd h List.not_mem_nil⟩

theorem ok_im_Field_lengths : FnOK prog E_im_Field_lengths tt 165 D_im_Field_lengths K_im_Field_lengths Z_im_Field_lengths O_im_Field_lengths f165 C_im_Field_lengths (fun x => T_im_Field_lengths x.1.1.1 x.1.1.2.1 x.1.2.1) (fun r => (((), ()), (r, ()))) where
  at_ := func165
  name := by kernel_rfl
  body := by kernel_rfl
  res := by kernel_rfl
  ok := by kernel_rfl
  arity := fun _ => Nat.le_of_ble_eq_true (by kernel_rfl)
  pin := fun _ => by kernel_rfl
  chk := by kernel_rfl
  loops := o_im_Field_lengths
  run := e_im_Field_lengths
  F := fun _ => rfl
  emb := fun _ => rfl

theorem fd_im_Field_lengths : FDok prog (165, D_im_Field_lengths) := fn_ok mixed (env_ok (List.forall_mem_cons.2 ⟨fd_im_Field_served, fun _ h => absurd h List.not_mem_nil⟩)) tabOK ok_im_Field_lengths

theorem e_math_bits_Len64 : ∀ x : D_math_bits_Len64.T, ((acode E_math_bits_Len64 tt Z_math_bits_Len64 (orcOf O_math_bits_Len64) C_math_bits_Len64 (entry A_math_bits_Len64 I_math_bits_Len64 x)).map (keepRet tt K_math_bits_Len64)).ev = ((T_math_bits_Len64 x.1.1).map fun r => some ((((r, ()), ())) : K_math_bits_Len64.T)).ev := fun _ => by kernel_rfl

theorem o_math_bits_Len64 : LoopsOK E_math_bits_Len64 tt Z_math_bits_Len64 O_math_bits_Len64 C_math_bits_Len64 := by
  have h : loopsOf C_math_bits_Len64 = [] := by kernel_rfl
  unfold LoopsOK
  rw [h]
  exact fun _ h => absurd h List.not_mem_nil

theorem ok_math_bits_Len64 : FnOK prog E_math_bits_Len64 tt 205 D_math_bits_Len64 K_math_bits_Len64 Z_math_bits_Len64 O_math_bits_Len64 f205 C_math_bits_Len64 (fun x => T_math_bits_Len64 x.1.1) (fun r => ((r, ()), ())) where
  at_ := func205
  name := by kernel_rfl
  body := by kernel_rfl
  res := by kernel_rfl
  ok := by kernel_rfl
  arity := fun _ => Nat.le_of_ble_eq_true (by kernel_rfl)
  pin := fun _ => by kernel_rfl
  chk := by kernel_rfl
  loops := o_math_bits_Len64
  run := e_math_bits_Len64
  F := fun _ => rfl
  emb := fun _ => rfl

theorem fd_math_bits_Len64 : FDok prog (205, D_math_bits_Len64) := fn_ok mixed (env_ok (fun _ h => absurd h List.not_mem_nil)) tabOK ok_math_bits_Len64

theorem e_math_bits_Len : ∀ x : D_math_bits_Len.T, ((acode E_math_bits_Len tt Z_math_bits_Len (orcOf O_math_bits_Len) C_math_bits_Len (entry A_math_bits_Len I_math_bits_Len x)).map (keepRet tt K_math_bits_Len)).ev = ((T_math_bits_Len x.1.1).map fun r => some ((((r, ()), ())) : K_math_bits_Len.T)).ev := fun _ => by kernel_rfl

theorem o_math_bits_Len : LoopsOK E_math_bits_Len tt Z_math_bits_Len O_math_bits_Len C_math_bits_Len := by
  have h : loopsOf C_math_bits_Len = [] := by kernel_rfl
  unfold LoopsOK
  rw [h]
  exact fun _ h => absurd h List.not_mem_nil

theorem ok_math_bits_Len : FnOK prog E_math_bits_Len tt 188 D_math_bits_Len K_math_bits_Len Z_math_bits_Len O_math_bits_Len f188 C_math_bits_Len (fun x => T_math_bits_Len x.1.1) (fun r => ((r, ()), ())) where
  at_ := func188
  name := by kernel_rfl
  body := by kernel_rfl
  res := by kernel_rfl
  ok := by kernel_rfl
  arity := fun _ => Nat.le_of_ble_eq_true (by kernel_rfl)
  pin := fun _ => by kernel_rfl
  chk := by kernel_rfl
  loops := o_math_bits_Len
  run := e_math_bits_Len
  F := fun _ => rfl
  emb := fun _ => rfl

theorem fd_math_bits_Len : FDok prog (188, D_math_bits_Len) := fn_ok mixed (env_ok (List.forall_mem_cons.2 ⟨fd_math_bits_Len64, fun _ h => absurd h List.not_mem_nil⟩)) tabOK ok_math_bits_Len

theorem e_cmp_isNaN_int : ∀ x : D_cmp_isNaN_int.T, ((acode E_cmp_isNaN_int tt Z_cmp_isNaN_int (orcOf O_cmp_isNaN_int) C_cmp_isNaN_int (entry A_cmp_isNaN_int I_cmp_isNaN_int x)).map (keepRet tt K_cmp_isNaN_int)).ev = ((T_cmp_isNaN_int x.1.1).map fun r => some ((((r, ()), ())) : K_cmp_isNaN_int.T)).ev := fun _ => by kernel_rfl

theorem o_cmp_isNaN_int : LoopsOK E_cmp_isNaN_int tt Z_cmp_isNaN_int O_cmp_isNaN_int C_cmp_isNaN_int := by
  have h : loopsOf C_cmp_isNaN_int = [] := by kernel_rfl
  unfold LoopsOK
  rw [h]
  exact fun _ h => absurd h List.not_mem_nil

theorem ok_cmp_isNaN_int : FnOK prog E_cmp_isNaN_int tt 217 D_cmp_isNaN_int K_cmp_isNaN_int Z_cmp_isNaN_int O_cmp_isNaN_int f217 C_cmp_isNaN_int (fun x => T_cmp_isNaN_int x.1.1) (fun r => ((r, ()), ())) where
  at_ := func217
  name := by kernel_rfl
  body := by kernel_rfl
  res := by kernel_rfl
  ok := by kernel_rfl
  arity := fun _ => Nat.le_of_ble_eq_true (by kernel_rfl)
  pin := fun _ => by kernel_rfl
  chk := by kernel_rfl
  loops := o_cmp_isNaN_int
  run := e_cmp_isNaN_int
  F := fun _ => rfl
  emb := fun _ => rfl

theorem fd_cmp_isNaN_int : FDok prog (217, D_cmp_isNaN_int) := fn_ok mixed (env_ok (fun _ h => absurd h List.not_mem_nil)) tabOK ok_cmp_isNaN_int

theorem e_cmp_Less_int : ∀ x : D_cmp_Less_int.T, ((acode E_cmp_Less_int tt Z_cmp_Less_int (orcOf O_cmp_Less_int) C_cmp_Less_int (entry A_cmp_Less_int I_cmp_Less_int x)).map (keepRet tt K_cmp_Less_int)).ev = ((T_cmp_Less_int x.1.1 x.1.2.1).map fun r => some ((((r, ()), ())) : K_cmp_Less_int.T)).ev := fun _ => by kernel_rfl

theorem o_cmp_Less_int : LoopsOK E_cmp_Less_int tt Z_cmp_Less_int O_cmp_Less_int C_cmp_Less_int := by
  have h : loopsOf C_cmp_Less_int = [] := by kernel_rfl
  unfold LoopsOK
  rw [h]
  exact fun _ h => absurd h List.not_mem_nil

theorem ok_cmp_Less_int : FnOK prog E_cmp_Less_int tt 201 D_cmp_Less_int K_cmp_Less_int Z_cmp_Less_int O_cmp_Less_int f201 C_cmp_Less_int (fun x => T_cmp_Less_int x.1.1 x.1.2.1) (fun r => ((r, ()), ())) where
  at_ := func201
  name := by kernel_rfl
  body := by kernel_rfl
  res := by kernel_rfl
  ok := by kernel_rfl
  arity := fun _ => Nat.le_of_ble_eq_true (by kernel_rfl)
  pin := fun _ => by kernel_rfl
  chk := by kernel_rfl
  loops := o_cmp_Less_int
  run := e_cmp_Less_int
  F := fun _ => rfl
  emb := fun _ => rfl

theorem fd_cmp_Less_int : FDok prog (201, D_cmp_Less_int) := fn_ok mixed (env_ok (List.forall_mem_cons.2 ⟨fd_cmp_isNaN_int, fun _ h => absurd h List.not_mem_nil⟩)) tabOK ok_cmp_Less_int

theorem e_slices_insertionSortOrdered_int : ∀ x : D_slices_insertionSortOrdered_int.T, ((acode E_slices_insertionSortOrdered_int tt Z_slices_insertionSortOrdered_int (orcOf O_slices_insertionSortOrdered_int) C_slices_insertionSortOrdered_int (entry A_slices_insertionSortOrdered_int I_slices_insertionSortOrdered_int x)).map (keepRet tt K_slices_insertionSortOrdered_int)).ev = ((T_slices_insertionSortOrdered_int x.1.2.1 x.1.2.2.1 x.2.1).map fun r => some ((((), (r, ()))) : K_slices_insertionSortOrdered_int.T)).ev := fun _ => by kernel_rfl

noncomputable def B_slices_insertionSortOrdered_int_2 : Code := ((loopsOf C_slices_insertionSortOrdered_int).find? fun p => Nat.beq p.1 2).elim .skip (·.2)
theorem l_slices_insertionSortOrdered_int_2 : (DL_slices_insertionSortOrdered_int_2).OK E_slices_insertionSortOrdered_int tt Z_slices_insertionSortOrdered_int (orcOf O_slices_insertionSortOrdered_int) B_slices_insertionSortOrdered_int_2 where
  ok := by kernel_rfl
  oke := by kernel_rfl
  okr := by kernel_rfl
  eta := fun _ => rfl
  step := fun _ _ => by kernel_rfl

noncomputable def B_slices_insertionSortOrdered_int_0 : Code := ((loopsOf C_slices_insertionSortOrdered_int).find? fun p => Nat.beq p.1 0).elim .skip (·.2)
theorem l_slices_insertionSortOrdered_int_0 : (DL_slices_insertionSortOrdered_int_0).OK E_slices_insertionSortOrdered_int tt Z_slices_insertionSortOrdered_int (orcOf O_slices_insertionSortOrdered_int) B_slices_insertionSortOrdered_int_0 where
  ok := by kernel_rfl
  oke := by kernel_rfl
  okr := by kernel_rfl
  eta := fun _ => rfl
  step := fun _ _ => by kernel_rfl

theorem o_slices_insertionSortOrdered_int : LoopsOK E_slices_insertionSortOrdered_int tt Z_slices_insertionSortOrdered_int O_slices_insertionSortOrdered_int C_slices_insertionSortOrdered_int := by
  have h : loopsOf C_slices_insertionSortOrdered_int = [(0, B_slices_insertionSortOrdered_int_0), (2, B_slices_insertionSortOrdered_int_2)] := by kernel_rfl
  unfold LoopsOK
  rw [h]
  exact List.forall_mem_cons.2 ⟨fun d h => (by have e : some (DL_slices_insertionSortOrdered_int_0) = some d := h; cases e; exact l_slices_insertionSortOrdered_int_0), List.forall_mem_cons.2 ⟨fun d h => (by have e : some (DL_slices_insertionSortOrdered_int_2) = some d := h; cases e; exact l_slices_insertionSortOrdered_int_2), fun _ h => absurd h List.not_mem_nil⟩⟩

theorem ok_slices_insertionSortOrdered_int : FnOK prog E_slices_insertionSortOrdered_int tt 195 D_slices_insertionSortOrdered_int K_slices_insertionSortOrdered_int Z_slices_insertionSortOrdered_int O_slices_insertionSortOrdered_int f195 C_slices_insertionSortOrdered_int (fun x => T_slices_insertionSortOrdered_int x.1.2.1 x.1.2.2.1 x.2.1) (fun r => ((), (r, ()))) where
  at_ := func195
  name := by kernel_rfl
  body := by kernel_rfl
  res := by kernel_rfl
  ok := by kernel_rfl
  arity := fun _ => Nat.le_of_ble_eq_true (by kernel_rfl)
  pin := fun _ => by kernel_rfl
  chk := by kernel_rfl
  loops := o_slices_insertionSortOrdered_int
  run := e_slices_insertionSortOrdered_int
  F := fun _ => rfl
  emb := fun _ => rfl

theorem fd_slices_insertionSortOrdered_int : FDok prog (195, D_slices_insertionSortOrdered_int) := fn_ok mixed (env_ok (List.forall_mem_cons.2 ⟨fd_cmp_Less_int, fun _ h => absurd h List.not_mem_nil⟩)) tabOK ok_slices_insertionSortOrdered_int

theorem e_slices_siftDownOrdered_int : ∀ x : D_slices_siftDownOrdered_int.T, ((acode E_slices_siftDownOrdered_int tt Z_slices_siftDownOrdered_int (orcOf O_slices_siftDownOrdered_int) C_slices_siftDownOrdered_int (entry A_slices_siftDownOrdered_int I_slices_siftDownOrdered_int x)).map (keepRet tt K_slices_siftDownOrdered_int)).ev = ((T_slices_siftDownOrdered_int x.1.2.1 x.1.2.2.1 x.1.2.2.2.1 x.2.1).map fun r => some ((((), (r, ()))) : K_slices_siftDownOrdered_int.T)).ev := fun _ => by kernel_rfl

noncomputable def B_slices_siftDownOrdered_int_0 : Code := ((loopsOf C_slices_siftDownOrdered_int).find? fun p => Nat.beq p.1 0).elim .skip (·.2)
theorem l_slices_siftDownOrdered_int_0 : (DL_slices_siftDownOrdered_int_0).OK E_slices_siftDownOrdered_int tt Z_slices_siftDownOrdered_int (orcOf O_slices_siftDownOrdered_int) B_slices_siftDownOrdered_int_0 where
  ok := by kernel_rfl
  oke := by kernel_rfl
  okr := by kernel_rfl
  eta := fun _ => rfl
  step := fun _ _ => by kernel_rfl

theorem o_slices_siftDownOrdered_int : LoopsOK E_slices_siftDownOrdered_int tt Z_slices_siftDownOrdered_int O_slices_siftDownOrdered_int C_slices_siftDownOrdered_int := by
  have h : loopsOf C_slices_siftDownOrdered_int = [(0, B_slices_siftDownOrdered_int_0)] := by kernel_rfl
  unfold LoopsOK
  rw [h]
  exact List.forall_mem_cons.2 ⟨fun d h => (by have e : some (DL_slices_siftDownOrdered_int_0) = some d := h; cases e; exact l_slices_siftDownOrdered_int_0), fun _ h => absurd h List.not_mem_nil⟩

theorem ok_slices_siftDownOrdered_int : FnOK prog E_slices_siftDownOrdered_int tt 212 D_slices_siftDownOrdered_int K_slices_siftDownOrdered_int Z_slices_siftDownOrdered_int O_slices_siftDownOrdered_int f212 C_slices_siftDownOrdered_int (fun x => T_slices_siftDownOrdered_int x.1.2.1 x.1.2.2.1 x.1.2.2.2.1 x.2.1) (fun r => ((), (r, ()))) where
  at_ := func212
  name := by kernel_rfl
  body := by kernel_rfl
  res := by kernel_rfl
  ok := by kernel_rfl
  arity := fun _ => Nat.le_of_ble_eq_true (by kernel_rfl)
  pin := fun _ => by kernel_rfl
  chk := by kernel_rfl
  loops := o_slices_siftDownOrdered_int
  run := e_slices_siftDownOrdered_int
  F := fun _ => rfl
  emb := fun _ => rfl

theorem fd_slices_siftDownOrdered_int : FDok prog (212, D_slices_siftDownOrdered_int) := fn_ok mixed (env_ok (List.forall_mem_cons.2 ⟨fd_cmp_Less_int, fun _ h => absurd h List.not_mem_nil⟩)) tabOK ok_slices_siftDownOrdered_int

theorem e_slices_heapSortOrdered_int : ∀ x : D_slices_heapSortOrdered_int.T, ((acode E_slices_heapSortOrdered_int tt Z_slices_heapSortOrdered_int (orcOf O_slices_heapSortOrdered_int) C_slices_heapSortOrdered_int (entry A_slices_heapSortOrdered_int I_slices_heapSortOrdered_int x)).map (keepRet tt K_slices_heapSortOrdered_int)).ev = ((T_slices_heapSortOrdered_int x.1.2.1 x.1.2.2.1 x.2.1).map fun r => some ((((), (r, ()))) : K_slices_heapSortOrdered_int.T)).ev := fun _ => by kernel_rfl

noncomputable def B_slices_heapSortOrdered_int_0 : Code := ((loopsOf C_slices_heapSortOrdered_int).find? fun p => Nat.beq p.1 0).elim .skip (·.2)
theorem l_slices_heapSortOrdered_int_0 : (DL_slices_heapSortOrdered_int_0).OK E_slices_heapSortOrdered_int tt Z_slices_heapSortOrdered_int (orcOf O_slices_heapSortOrdered_int) B_slices_heapSortOrdered_int_0 where
  ok := by kernel_rfl
  oke := by kernel_rfl
  okr := by kernel_rfl
  eta := fun _ => rfl
  step := fun _ _ => by kernel_rfl

noncomputable def B_slices_heapSortOrdered_int_2 : Code := ((loopsOf C_slices_heapSortOrdered_int).find? fun p => Nat.beq p.1 2).elim .skip (·.2)
theorem l_slices_heapSortOrdered_int_2 : (DL_slices_heapSortOrdered_int_2).OK E_slices_heapSortOrdered_int tt Z_slices_heapSortOrdered_int (orcOf O_slices_heapSortOrdered_int) B_slices_heapSortOrdered_int_2 where
  ok := by kernel_rfl
  oke := by kernel_rfl
  okr := by kernel_rfl
  eta := fun _ => rfl
  step := fun _ _ => by kernel_rfl

theorem o_slices_heapSortOrdered_int : LoopsOK E_slices_heapSortOrdered_int tt Z_slices_heapSortOrdered_int O_slices_heapSortOrdered_int C_slices_heapSortOrdered_int := by
  have h : loopsOf C_slices_heapSortOrdered_int = [(0, B_slices_heapSortOrdered_int_0), (2, B_slices_heapSortOrdered_int_2)] := by kernel_rfl
  unfold LoopsOK
  rw [h]
  exact List.forall_mem_cons.2 ⟨fun d h => (by have e : some (DL_slices_heapSortOrdered_int_0) = some d := h; cases e; exact l_slices_heapSortOrdered_int_0), List.forall_mem_cons.2 ⟨fun d h => (by have e : some (DL_slices_heapSortOrdered_int_2) = some d := h; cases e; exact l_slices_heapSortOrdered_int_2), fun _ h => absurd h List.not_mem_nil⟩⟩

theorem ok_slices_heapSortOrdered_int : FnOK prog E_slices_heapSortOrdered_int tt 196 D_slices_heapSortOrdered_int K_slices_heapSortOrdered_int Z_slices_heapSortOrdered_int O_slices_heapSortOrdered_int f196 C_slices_heapSortOrdered_int (fun x => T_slices_heapSortOrdered_int x.1.2.1 x.1.2.2.1 x.2.1) (fun r => ((), (r, ()))) where
  at_ := func196
  name := by kernel_rfl
  body := by kernel_rfl
  res := by kernel_rfl
  ok := by kernel_rfl
  arity := fun _ => Nat.le_of_ble_eq_true (by kernel_rfl)
  pin := fun _ => by kernel_rfl
  chk := by kernel_rfl
  loops := o_slices_heapSortOrdered_int
  run := e_slices_heapSortOrdered_int
  F := fun _ => rfl
  emb := fun _ => rfl

theorem fd_slices_heapSortOrdered_int : FDok prog (196, D_slices_heapSortOrdered_int) := fn_ok mixed (env_ok (List.forall_mem_cons.2 ⟨fd_slices_siftDownOrdered_int, fun _ h => absurd h List.not_mem_nil⟩)) tabOK ok_slices_heapSortOrdered_int

theorem e_slices_nextPowerOfTwo : ∀ x : D_slices_nextPowerOfTwo.T, ((acode E_slices_nextPowerOfTwo tt Z_slices_nextPowerOfTwo (orcOf O_slices_nextPowerOfTwo) C_slices_nextPowerOfTwo (entry A_slices_nextPowerOfTwo I_slices_nextPowerOfTwo x)).map (keepRet tt K_slices_nextPowerOfTwo)).ev = ((T_slices_nextPowerOfTwo x.1.1).map fun r => some ((((r, ()), ())) : K_slices_nextPowerOfTwo.T)).ev := fun _ => by kernel_rfl

theorem o_slices_nextPowerOfTwo : LoopsOK E_slices_nextPowerOfTwo tt Z_slices_nextPowerOfTwo O_slices_nextPowerOfTwo C_slices_nextPowerOfTwo := by
  have h : loopsOf C_slices_nextPowerOfTwo = [] := by kernel_rfl
  unfold LoopsOK
  rw [h]
  exact fun _ h => absurd h List.not_mem_nil

theorem ok_slices_nextPowerOfTwo : FnOK prog E_slices_nextPowerOfTwo tt 213 D_slices_nextPowerOfTwo K_slices_nextPowerOfTwo Z_slices_nextPowerOfTwo O_slices_nextPowerOfTwo f213 C_slices_nextPowerOfTwo (fun x => T_slices_nextPowerOfTwo x.1.1) (fun r => ((r, ()), ())) where
  at_ := func213
  name := by kernel_rfl
  body := by kernel_rfl
  res := by kernel_rfl
  ok := by kernel_rfl
  arity := fun _ => Nat.le_of_ble_eq_true (by kernel_rfl)
  pin := fun _ => by kernel_rfl
  chk := by kernel_rfl
  loops := o_slices_nextPowerOfTwo
  run := e_slices_nextPowerOfTwo
  F := fun _ => rfl
  emb := fun _ => rfl

theorem fd_slices_nextPowerOfTwo : FDok prog (213, D_slices_nextPowerOfTwo) := fn_ok mixed (env_ok (List.forall_mem_cons.2 ⟨fd_math_bits_Len, fun _ h => absurd h List.not_mem_nil⟩)) tabOK ok_slices_nextPowerOfTwo

theorem e_slices_xorshift_Next : ∀ x : D_slices_xorshift_Next.T, ((acode E_slices_xorshift_Next tt Z_slices_xorshift_Next (orcOf O_slices_xorshift_Next) C_slices_xorshift_Next (entry A_slices_xorshift_Next I_slices_xorshift_Next x)).map (keepRet tt K_slices_xorshift_Next)).ev = ((T_slices_xorshift_Next x.2.1.1).map fun r => some ((((r.1, ()), ((r.2, ()), ()))) : K_slices_xorshift_Next.T)).ev := fun _ => by kernel_rfl

theorem o_slices_xorshift_Next : LoopsOK E_slices_xorshift_Next tt Z_slices_xorshift_Next O_slices_xorshift_Next C_slices_xorshift_Next := by
  have h : loopsOf C_slices_xorshift_Next = [] := by kernel_rfl
  unfold LoopsOK
  rw [h]
  exact fun _ h => absurd h List.not_mem_nil

theorem ok_slices_xorshift_Next : FnOK prog E_slices_xorshift_Next tt 214 D_slices_xorshift_Next K_slices_xorshift_Next Z_slices_xorshift_Next O_slices_xorshift_Next f214 C_slices_xorshift_Next (fun x => T_slices_xorshift_Next x.2.1.1) (fun r => ((r.1, ()), ((r.2, ()), ()))) where
  at_ := func214
  name := by kernel_rfl
  body := by kernel_rfl
  res := by kernel_rfl
  ok := by kernel_rfl
  arity := fun _ => Nat.le_of_ble_eq_true (by kernel_rfl)
  pin := fun _ => by kernel_rfl
  chk := by kernel_rfl
  loops := o_slices_xorshift_Next
  run := e_slices_xorshift_Next
  F := fun _ => rfl
  emb := fun _ => rfl

theorem fd_slices_xorshift_Next : FDok prog (214, D_slices_xorshift_Next) := fn_ok mixed (env_ok (fun _ h => absurd h List.not_mem_nil)) tabOK ok_slices_xorshift_Next

theorem e_slices_breakPatternsOrdered_int : ∀ x : D_slices_breakPatternsOrdered_int.T, ((acode E_slices_breakPatternsOrdered_int tt Z_slices_breakPatternsOrdered_int (orcOf O_slices_breakPatternsOrdered_int) C_slices_breakPatternsOrdered_int (entry A_slices_breakPatternsOrdered_int I_slices_breakPatternsOrdered_int x)).map (keepRet tt K_slices_breakPatternsOrdered_int)).ev = ((T_slices_breakPatternsOrdered_int x.1.2.1 x.1.2.2.1 x.2.1).map fun r => some ((((), (r, ()))) : K_slices_breakPatternsOrdered_int.T)).ev := fun _ => by kernel_rfl

noncomputable def B_slices_breakPatternsOrdered_int_0 : Code := ((loopsOf C_slices_breakPatternsOrdered_int).find? fun p => Nat.beq p.1 0).elim .skip (·.2)
theorem l_slices_breakPatternsOrdered_int_0 : (DL_slices_breakPatternsOrdered_int_0).OK E_slices_breakPatternsOrdered_int tt Z_slices_breakPatternsOrdered_int (orcOf O_slices_breakPatternsOrdered_int) B_slices_breakPatternsOrdered_int_0 where
  ok := by kernel_rfl
  oke := by kernel_rfl
  okr := by kernel_rfl
  eta := fun _ => rfl
  step := fun _ _ => by kernel_rfl

theorem o_slices_breakPatternsOrdered_int : LoopsOK E_slices_breakPatternsOrdered_int tt Z_slices_breakPatternsOrdered_int O_slices_breakPatternsOrdered_int C_slices_breakPatternsOrdered_int := by
  have h : loopsOf C_slices_breakPatternsOrdered_int = [(0, B_slices_breakPatternsOrdered_int_0)] := by kernel_rfl
  unfold LoopsOK
  rw [h]
  exact List.forall_mem_cons.2 ⟨fun d h => (by have e : some (DL_slices_breakPatternsOrdered_int_0) = some d := h; cases e; exact l_slices_breakPatternsOrdered_int_0), fun _ h => absurd h List.not_mem_nil⟩

theorem ok_slices_breakPatternsOrdered_int : FnOK prog E_slices_breakPatternsOrdered_int tt 197 D_slices_breakPatternsOrdered_int K_slices_breakPatternsOrdered_int Z_slices_breakPatternsOrdered_int O_slices_breakPatternsOrdered_int f197 C_slices_breakPatternsOrdered_int (fun x => T_slices_breakPatternsOrdered_int x.1.2.1 x.1.2.2.1 x.2.1) (fun r => ((), (r, ()))) where
  at_ := func197
  name := by kernel_rfl
  body := by kernel_rfl
  res := by kernel_rfl
  ok := by kernel_rfl
  arity := fun _ => Nat.le_of_ble_eq_true (by kernel_rfl)
  pin := fun _ => by kernel_rfl
  chk := by kernel_rfl
  loops := o_slices_breakPatternsOrdered_int
  run := e_slices_breakPatternsOrdered_int
  F := fun _ => rfl
  emb := fun _ => rfl

theorem fd_slices_breakPatternsOrdered_int : FDok prog (197, D_slices_breakPatternsOrdered_int) := fn_ok mixed (env_ok (List.forall_mem_cons.2 ⟨fd_slices_nextPowerOfTwo, List.forall_mem_cons.2 ⟨fd_slices_xorshift_Next, fun _ h => absurd h List.not_mem_nil⟩⟩)) tabOK ok_slices_breakPatternsOrdered_int

theorem e_slices_order2Ordered_int : ∀ x : D_slices_order2Ordered_int.T, ((acode E_slices_order2Ordered_int tt Z_slices_order2Ordered_int (orcOf O_slices_order2Ordered_int) C_slices_order2Ordered_int (entry A_slices_order2Ordered_int I_slices_order2Ordered_int x)).map (keepRet tt K_slices_order2Ordered_int)).ev = ((T_slices_order2Ordered_int x.1.1 x.1.2.1 x.1.2.2.1 x.2.1.1).map fun r => some ((((r.1, (r.2.1, ())), ((r.2.2, ()), ()))) : K_slices_order2Ordered_int.T)).ev := fun _ => by kernel_rfl

theorem o_slices_order2Ordered_int : LoopsOK E_slices_order2Ordered_int tt Z_slices_order2Ordered_int O_slices_order2Ordered_int C_slices_order2Ordered_int := by
  have h : loopsOf C_slices_order2Ordered_int = [] := by kernel_rfl
  unfold LoopsOK
  rw [h]
  exact fun _ h => absurd h List.not_mem_nil

theorem ok_slices_order2Ordered_int : FnOK prog E_slices_order2Ordered_int tt 226 D_slices_order2Ordered_int K_slices_order2Ordered_int Z_slices_order2Ordered_int O_slices_order2Ordered_int f226 C_slices_order2Ordered_int (fun x => T_slices_order2Ordered_int x.1.1 x.1.2.1 x.1.2.2.1 x.2.1.1) (fun r => ((r.1, (r.2.1, ())), ((r.2.2, ()), ()))) where
  at_ := func226
  name := by kernel_rfl
  body := by kernel_rfl
  res := by kernel_rfl
  ok := by kernel_rfl
  arity := fun _ => Nat.le_of_ble_eq_true (by kernel_rfl)
  pin := fun _ => by kernel_rfl
  chk := by kernel_rfl
  loops := o_slices_order2Ordered_int
  run := e_slices_order2Ordered_int
  F := fun _ => rfl
  emb := fun _ => rfl

theorem fd_slices_order2Ordered_int : FDok prog (226, D_slices_order2Ordered_int) := fn_ok mixed (env_ok (List.forall_mem_cons.2 ⟨fd_cmp_Less_int, fun _ h => absurd h List.not_mem_nil⟩)) tabOK ok_slices_order2Ordered_int

theorem e_slices_medianOrdered_int : ∀ x : D_slices_medianOrdered_int.T, ((acode E_slices_medianOrdered_int tt Z_slices_medianOrdered_int (orcOf O_slices_medianOrdered_int) C_slices_medianOrdered_int (entry A_slices_medianOrdered_int I_slices_medianOrdered_int x)).map (keepRet tt K_slices_medianOrdered_int)).ev = ((T_slices_medianOrdered_int x.1.1 x.1.2.1 x.1.2.2.1 x.1.2.2.2.1 x.2.1.1).map fun r => some ((((r.1, ()), ((r.2, ()), ()))) : K_slices_medianOrdered_int.T)).ev := fun _ => by kernel_rfl

theorem o_slices_medianOrdered_int : LoopsOK E_slices_medianOrdered_int tt Z_slices_medianOrdered_int O_slices_medianOrdered_int C_slices_medianOrdered_int := by
  have h : loopsOf C_slices_medianOrdered_int = [] := by kernel_rfl
  unfold LoopsOK
  rw [h]
  exact fun _ h => absurd h List.not_mem_nil

theorem ok_slices_medianOrdered_int : FnOK prog E_slices_medianOrdered_int tt 216 D_slices_medianOrdered_int K_slices_medianOrdered_int Z_slices_medianOrdered_int O_slices_medianOrdered_int f216 C_slices_medianOrdered_int (fun x => T_slices_medianOrdered_int x.1.1 x.1.2.1 x.1.2.2.1 x.1.2.2.2.1 x.2.1.1) (fun r => ((r.1, ()), ((r.2, ()), ()))) where
  at_ := func216
  name := by kernel_rfl
  body := by kernel_rfl
  res := by kernel_rfl
  ok := by kernel_rfl
  arity := fun _ => Nat.le_of_ble_eq_true (by kernel_rfl)
  pin := fun _ => by kernel_rfl
  chk := by kernel_rfl
  loops := o_slices_medianOrdered_int
  run := e_slices_medianOrdered_int
  F := fun _ => rfl
  emb := fun _ => rfl

theorem fd_slices_medianOrdered_int : FDok prog (216, D_slices_medianOrdered_int) := fn_ok mixed (env_ok (List.forall_mem_cons.2 ⟨fd_slices_order2Ordered_int, fun _ h => absurd h List.not_mem_nil⟩)) tabOK ok_slices_medianOrdered_int

theorem e_slices_medianAdjacentOrdered_int : ∀ x : D_slices_medianAdjacentOrdered_int.T, ((acode E_slices_medianAdjacentOrdered_int tt Z_slices_medianAdjacentOrdered_int (orcOf O_slices_medianAdjacentOrdered_int) C_slices_medianAdjacentOrdered_int (entry A_slices_medianAdjacentOrdered_int I_slices_medianAdjacentOrdered_int x)).map (keepRet tt K_slices_medianAdjacentOrdered_int)).ev = ((T_slices_medianAdjacentOrdered_int x.1.1 x.1.2.1 x.2.1.1).map fun r => some ((((r.1, ()), ((r.2, ()), ()))) : K_slices_medianAdjacentOrdered_int.T)).ev := fun _ => by kernel_rfl

theorem o_slices_medianAdjacentOrdered_int : LoopsOK E_slices_medianAdjacentOrdered_int tt Z_slices_medianAdjacentOrdered_int O_slices_medianAdjacentOrdered_int C_slices_medianAdjacentOrdered_int := by
  have h : loopsOf C_slices_medianAdjacentOrdered_int = [] := by kernel_rfl
  unfold LoopsOK
  rw [h]
  exact fun _ h => absurd h List.not_mem_nil

theorem ok_slices_medianAdjacentOrdered_int : FnOK prog E_slices_medianAdjacentOrdered_int tt 215 D_slices_medianAdjacentOrdered_int K_slices_medianAdjacentOrdered_int Z_slices_medianAdjacentOrdered_int O_slices_medianAdjacentOrdered_int f215 C_slices_medianAdjacentOrdered_int (fun x => T_slices_medianAdjacentOrdered_int x.1.1 x.1.2.1 x.2.1.1) (fun r => ((r.1, ()), ((r.2, ()), ()))) where
  at_ := func215
  name := by kernel_rfl
  body := by kernel_rfl
  res := by kernel_rfl
  ok := by kernel_rfl
  arity := fun _ => Nat.le_of_ble_eq_true (by kernel_rfl)
  pin := fun _ => by kernel_rfl
  chk := by kernel_rfl
  loops := o_slices_medianAdjacentOrdered_int
  run := e_slices_medianAdjacentOrdered_int
  F := fun _ => rfl
  emb := fun _ => rfl

theorem fd_slices_medianAdjacentOrdered_int : FDok prog (215, D_slices_medianAdjacentOrdered_int) := fn_ok mixed (env_ok (List.forall_mem_cons.2 ⟨fd_slices_medianOrdered_int, fun _ h => absurd h List.not_mem_nil⟩)) tabOK ok_slices_medianAdjacentOrdered_int

theorem e_slices_choosePivotOrdered_int : ∀ x : D_slices_choosePivotOrdered_int.T, ((acode E_slices_choosePivotOrdered_int tt Z_slices_choosePivotOrdered_int (orcOf O_slices_choosePivotOrdered_int) C_slices_choosePivotOrdered_int (entry A_slices_choosePivotOrdered_int I_slices_choosePivotOrdered_int x)).map (keepRet tt K_slices_choosePivotOrdered_int)).ev = ((T_slices_choosePivotOrdered_int x.1.1 x.1.2.1 x.1.2.2.1).map fun r => some ((((r.1, (r.2, ())), ())) : K_slices_choosePivotOrdered_int.T)).ev := fun _ => by kernel_rfl

theorem o_slices_choosePivotOrdered_int : LoopsOK E_slices_choosePivotOrdered_int tt Z_slices_choosePivotOrdered_int O_slices_choosePivotOrdered_int C_slices_choosePivotOrdered_int := by
  have h : loopsOf C_slices_choosePivotOrdered_int = [] := by kernel_rfl
  unfold LoopsOK
  rw [h]
  exact fun _ h => absurd h List.not_mem_nil

theorem ok_slices_choosePivotOrdered_int : FnOK prog E_slices_choosePivotOrdered_int tt 198 D_slices_choosePivotOrdered_int K_slices_choosePivotOrdered_int Z_slices_choosePivotOrdered_int O_slices_choosePivotOrdered_int f198 C_slices_choosePivotOrdered_int (fun x => T_slices_choosePivotOrdered_int x.1.1 x.1.2.1 x.1.2.2.1) (fun r => ((r.1, (r.2, ())), ())) where
  at_ := func198
  name := by kernel_rfl
  body := by kernel_rfl
  res := by kernel_rfl
  ok := by kernel_rfl
  arity := fun _ => Nat.le_of_ble_eq_true (by kernel_rfl)
  pin := fun _ => by kernel_rfl
  chk := by kernel_rfl
  loops := o_slices_choosePivotOrdered_int
  run := e_slices_choosePivotOrdered_int
  F := fun _ => rfl
  emb := fun _ => rfl

theorem fd_slices_choosePivotOrdered_int : FDok prog (198, D_slices_choosePivotOrdered_int) := fn_ok mixed (env_ok (List.forall_mem_cons.2 ⟨fd_slices_medianAdjacentOrdered_int, List.forall_mem_cons.2 ⟨fd_slices_medianOrdered_int, fun _ h => absurd h List.not_mem_nil⟩⟩)) tabOK ok_slices_choosePivotOrdered_int

theorem e_slices_reverseRangeOrdered_int : ∀ x : D_slices_reverseRangeOrdered_int.T, ((acode E_slices_reverseRangeOrdered_int tt Z_slices_reverseRangeOrdered_int (orcOf O_slices_reverseRangeOrdered_int) C_slices_reverseRangeOrdered_int (entry A_slices_reverseRangeOrdered_int I_slices_reverseRangeOrdered_int x)).map (keepRet tt K_slices_reverseRangeOrdered_int)).ev = ((T_slices_reverseRangeOrdered_int x.1.2.1 x.1.2.2.1 x.2.1).map fun r => some ((((), (r, ()))) : K_slices_reverseRangeOrdered_int.T)).ev := fun _ => by kernel_rfl

noncomputable def B_slices_reverseRangeOrdered_int_0 : Code := ((loopsOf C_slices_reverseRangeOrdered_int).find? fun p => Nat.beq p.1 0).elim .skip (·.2)
theorem l_slices_reverseRangeOrdered_int_0 : (DL_slices_reverseRangeOrdered_int_0).OK E_slices_reverseRangeOrdered_int tt Z_slices_reverseRangeOrdered_int (orcOf O_slices_reverseRangeOrdered_int) B_slices_reverseRangeOrdered_int_0 where
  ok := by kernel_rfl
  oke := by kernel_rfl
  okr := by kernel_rfl
  eta := fun _ => rfl
  step := fun _ _ => by kernel_rfl

theorem o_slices_reverseRangeOrdered_int : LoopsOK E_slices_reverseRangeOrdered_int tt Z_slices_reverseRangeOrdered_int O_slices_reverseRangeOrdered_int C_slices_reverseRangeOrdered_int := by
  have h : loopsOf C_slices_reverseRangeOrdered_int = [(0, B_slices_reverseRangeOrdered_int_0)] := by kernel_rfl
  unfold LoopsOK
  rw [h]
  exact List.forall_mem_cons.2 ⟨fun d h => (by have e : some (DL_slices_reverseRangeOrdered_int_0) = some d := h; cases e; exact l_slices_reverseRangeOrdered_int_0), fun _ h => absurd h List.not_mem_nil⟩

theorem ok_slices_reverseRangeOrdered_int : FnOK prog E_slices_reverseRangeOrdered_int tt 199 D_slices_reverseRangeOrdered_int K_slices_reverseRangeOrdered_int Z_slices_reverseRangeOrdered_int O_slices_reverseRangeOrdered_int f199 C_slices_reverseRangeOrdered_int (fun x => T_slices_reverseRangeOrdered_int x.1.2.1 x.1.2.2.1 x.2.1) (fun r => ((), (r, ()))) where
  at_ := func199
  name := by kernel_rfl
  body := by kernel_rfl
  res := by kernel_rfl
  ok := by kernel_rfl
  arity := fun _ => Nat.le_of_ble_eq_true (by kernel_rfl)
  pin := fun _ => by kernel_rfl
  chk := by kernel_rfl
  loops := o_slices_reverseRangeOrdered_int
  run := e_slices_reverseRangeOrdered_int
  F := fun _ => rfl
  emb := fun _ => rfl

theorem fd_slices_reverseRangeOrdered_int : FDok prog (199, D_slices_reverseRangeOrdered_int) := fn_ok mixed (env_ok (fun _ h => absurd h List.not_mem_nil)) tabOK ok_slices_reverseRangeOrdered_int

theorem e_slices_partialInsertionSortOrdered_int : ∀ x : D_slices_partialInsertionSortOrdered_int.T, ((acode E_slices_partialInsertionSortOrdered_int tt Z_slices_partialInsertionSortOrdered_int (orcOf O_slices_partialInsertionSortOrdered_int) C_slices_partialInsertionSortOrdered_int (entry A_slices_partialInsertionSortOrdered_int I_slices_partialInsertionSortOrdered_int x)).map (keepRet tt K_slices_partialInsertionSortOrdered_int)).ev = ((T_slices_partialInsertionSortOrdered_int x.1.2.1 x.1.2.2.1 x.2.1).map fun r => some ((((r.1, ()), (r.2, ()))) : K_slices_partialInsertionSortOrdered_int.T)).ev := fun _ => by kernel_rfl

noncomputable def B_slices_partialInsertionSortOrdered_int_2 : Code := ((loopsOf C_slices_partialInsertionSortOrdered_int).find? fun p => Nat.beq p.1 2).elim .skip (·.2)
theorem l_slices_partialInsertionSortOrdered_int_2 : (DL_slices_partialInsertionSortOrdered_int_2).OK E_slices_partialInsertionSortOrdered_int tt Z_slices_partialInsertionSortOrdered_int (orcOf O_slices_partialInsertionSortOrdered_int) B_slices_partialInsertionSortOrdered_int_2 where
  ok := by kernel_rfl
  oke := by kernel_rfl
  okr := by kernel_rfl
  eta := fun _ => rfl
  step := fun _ _ => by kernel_rfl

noncomputable def B_slices_partialInsertionSortOrdered_int_4 : Code := ((loopsOf C_slices_partialInsertionSortOrdered_int).find? fun p => Nat.beq p.1 4).elim .skip (·.2)
theorem l_slices_partialInsertionSortOrdered_int_4 : (DL_slices_partialInsertionSortOrdered_int_4).OK E_slices_partialInsertionSortOrdered_int tt Z_slices_partialInsertionSortOrdered_int (orcOf O_slices_partialInsertionSortOrdered_int) B_slices_partialInsertionSortOrdered_int_4 where
  ok := by kernel_rfl
  oke := by kernel_rfl
  okr := by kernel_rfl
  eta := fun _ => rfl
  step := fun _ _ => by kernel_rfl

noncomputable def B_slices_partialInsertionSortOrdered_int_6 : Code := ((loopsOf C_slices_partialInsertionSortOrdered_int).find? fun p => Nat.beq p.1 6).elim .skip (·.2)
theorem l_slices_partialInsertionSortOrdered_int_6 : (DL_slices_partialInsertionSortOrdered_int_6).OK E_slices_partialInsertionSortOrdered_int tt Z_slices_partialInsertionSortOrdered_int (orcOf O_slices_partialInsertionSortOrdered_int) B_slices_partialInsertionSortOrdered_int_6 where
  ok := by kernel_rfl
  oke := by kernel_rfl
  okr := by kernel_rfl
  eta := fun _ => rfl
  step := fun _ _ => by kernel_rfl

noncomputable def B_slices_partialInsertionSortOrdered_int_0 : Code := ((loopsOf C_slices_partialInsertionSortOrdered_int).find? fun p => Nat.beq p.1 0).elim .skip (·.2)
theorem l_slices_partialInsertionSortOrdered_int_0 : (DL_slices_partialInsertionSortOrdered_int_0).OK E_slices_partialInsertionSortOrdered_int tt Z_slices_partialInsertionSortOrdered_int (orcOf O_slices_partialInsertionSortOrdered_int) B_slices_partialInsertionSortOrdered_int_0 where
  ok := by kernel_rfl
  oke := by kernel_rfl
  okr := by kernel_rfl
  eta := fun _ => rfl
  step := fun _ _ => by kernel_rfl

theorem o_slices_partialInsertionSortOrdered_int : LoopsOK E_slices_partialInsertionSortOrdered_int tt Z_slices_partialInsertionSortOrdered_int O_slices_partialInsertionSortOrdered_int C_slices_partialInsertionSortOrdered_int := by
  have h : loopsOf C_slices_partialInsertionSortOrdered_int = [(0, B_slices_partialInsertionSortOrdered_int_0), (2, B_slices_partialInsertionSortOrdered_int_2), (4, B_slices_partialInsertionSortOrdered_int_4), (6, B_slices_partialInsertionSortOrdered_int_6)] := by kernel_rfl
  unfold LoopsOK
  rw [h]
  exact List.forall_mem_cons.2 ⟨fun d h => (by have e : some (DL_slices_partialInsertionSortOrdered_int_0) = some d := h; cases e; exact l_slices_partialInsertionSortOrdered_int_0), List.forall_mem_cons.2 ⟨fun d h => (by have e : some (DL_slices_partialInsertionSortOrdered_int_2) = some d := h; cases e; exact l_slices_partialInsertionSortOrdered_int_2), List.forall_mem_cons.2 ⟨fun d h => (by have e : some (DL_slices_partialInsertionSortOrdered_int_4) = some d := h; cases e; exact l_slices_partialInsertionSortOrdered_int_4), List.forall_mem_cons.2 ⟨fun d h => (by have e : some (DL_slices_partialInsertionSortOrdered_int_6) = some d := h; cases e; exact l_slices_partialInsertionSortOrdered_int_6), fun _ h => absurd h List.not_mem_nil⟩⟩⟩⟩

theorem ok_slices_partialInsertionSortOrdered_int : FnOK prog E_slices_partialInsertionSortOrdered_int tt 200 D_slices_partialInsertionSortOrdered_int K_slices_partialInsertionSortOrdered_int Z_slices_partialInsertionSortOrdered_int O_slices_partialInsertionSortOrdered_int f200 C_slices_partialInsertionSortOrdered_int (fun x => T_slices_partialInsertionSortOrdered_int x.1.2.1 x.1.2.2.1 x.2.1) (fun r => ((r.1, ()), (r.2, ()))) where
  at_ := func200
  name := by kernel_rfl
  body := by kernel_rfl
  res := by kernel_rfl
  ok := by kernel_rfl
  arity := fun _ => Nat.le_of_ble_eq_true (by kernel_rfl)
  pin := fun _ => by kernel_rfl
  chk := by kernel_rfl
  loops := o_slices_partialInsertionSortOrdered_int
  run := e_slices_partialInsertionSortOrdered_int
  F := fun _ => rfl
  emb := fun _ => rfl

theorem fd_slices_partialInsertionSortOrdered_int : FDok prog (200, D_slices_partialInsertionSortOrdered_int) := fn_ok mixed (env_ok (List.forall_mem_cons.2 ⟨fd_cmp_Less_int, fun _ h => absurd h List.not_mem_nil⟩)) tabOK ok_slices_partialInsertionSortOrdered_int

theorem e_slices_partitionEqualOrdered_int : ∀ x : D_slices_partitionEqualOrdered_int.T, ((acode E_slices_partitionEqualOrdered_int tt Z_slices_partitionEqualOrdered_int (orcOf O_slices_partitionEqualOrdered_int) C_slices_partitionEqualOrdered_int (entry A_slices_partitionEqualOrdered_int I_slices_partitionEqualOrdered_int x)).map (keepRet tt K_slices_partitionEqualOrdered_int)).ev = ((T_slices_partitionEqualOrdered_int x.1.2.1 x.1.2.2.1 x.1.2.2.2.1 x.2.1).map fun r => some ((((r.1, ()), (r.2, ()))) : K_slices_partitionEqualOrdered_int.T)).ev := fun _ => by kernel_rfl

noncomputable def B_slices_partitionEqualOrdered_int_2 : Code := ((loopsOf C_slices_partitionEqualOrdered_int).find? fun p => Nat.beq p.1 2).elim .skip (·.2)
theorem l_slices_partitionEqualOrdered_int_2 : (DL_slices_partitionEqualOrdered_int_2).OK E_slices_partitionEqualOrdered_int tt Z_slices_partitionEqualOrdered_int (orcOf O_slices_partitionEqualOrdered_int) B_slices_partitionEqualOrdered_int_2 where
  ok := by kernel_rfl
  oke := by kernel_rfl
  okr := by kernel_rfl
  eta := fun _ => rfl
  step := fun _ _ => by kernel_rfl

noncomputable def B_slices_partitionEqualOrdered_int_4 : Code := ((loopsOf C_slices_partitionEqualOrdered_int).find? fun p => Nat.beq p.1 4).elim .skip (·.2)
theorem l_slices_partitionEqualOrdered_int_4 : (DL_slices_partitionEqualOrdered_int_4).OK E_slices_partitionEqualOrdered_int tt Z_slices_partitionEqualOrdered_int (orcOf O_slices_partitionEqualOrdered_int) B_slices_partitionEqualOrdered_int_4 where
  ok := by kernel_rfl
  oke := by kernel_rfl
  okr := by kernel_rfl
  eta := fun _ => rfl
  step := fun _ _ => by kernel_rfl

noncomputable def B_slices_partitionEqualOrdered_int_0 : Code := ((loopsOf C_slices_partitionEqualOrdered_int).find? fun p => Nat.beq p.1 0).elim .skip (·.2)
theorem l_slices_partitionEqualOrdered_int_0 : (DL_slices_partitionEqualOrdered_int_0).OK E_slices_partitionEqualOrdered_int tt Z_slices_partitionEqualOrdered_int (orcOf O_slices_partitionEqualOrdered_int) B_slices_partitionEqualOrdered_int_0 where
  ok := by kernel_rfl
  oke := by kernel_rfl
  okr := by kernel_rfl
  eta := fun _ => rfl
  step := fun _ _ => by kernel_rfl

theorem o_slices_partitionEqualOrdered_int : LoopsOK E_slices_partitionEqualOrdered_int tt Z_slices_partitionEqualOrdered_int O_slices_partitionEqualOrdered_int C_slices_partitionEqualOrdered_int := by
  have h : loopsOf C_slices_partitionEqualOrdered_int = [(0, B_slices_partitionEqualOrdered_int_0), (2, B_slices_partitionEqualOrdered_int_2), (4, B_slices_partitionEqualOrdered_int_4)] := by kernel_rfl
  unfold LoopsOK
  rw [h]
  exact List.forall_mem_cons.2 ⟨fun d h => (by have e : some (DL_slices_partitionEqualOrdered_int_0) = some d := h; cases e; exact l_slices_partitionEqualOrdered_int_0), List.forall_mem_cons.2 ⟨fun d h => (by have e : some (DL_slices_partitionEqualOrdered_int_2) = some d := h; cases e; exact l_slices_partitionEqualOrdered_int_2), List.forall_mem_cons.2 ⟨fun d h => (by have e : some (DL_slices_partitionEqualOrdered_int_4) = some d := h; cases e; exact l_slices_partitionEqualOrdered_int_4), fun _ h => absurd h List.not_mem_nil⟩⟩⟩

theorem ok_slices_partitionEqualOrdered_int : FnOK prog E_slices_partitionEqualOrdered_int tt 202 D_slices_partitionEqualOrdered_int K_slices_partitionEqualOrdered_int Z_slices_partitionEqualOrdered_int O_slices_partitionEqualOrdered_int f202 C_slices_partitionEqualOrdered_int (fun x => T_slices_partitionEqualOrdered_int x.1.2.1 x.1.2.2.1 x.1.2.2.2.1 x.2.1) (fun r => ((r.1, ()), (r.2, ()))) where
  at_ := func202
  name := by kernel_rfl
  body := by kernel_rfl
  res := by kernel_rfl
  ok := by kernel_rfl
  arity := fun _ => Nat.le_of_ble_eq_true (by kernel_rfl)
  pin := fun _ => by kernel_rfl
  chk := by kernel_rfl
  loops := o_slices_partitionEqualOrdered_int
  run := e_slices_partitionEqualOrdered_int
  F := fun _ => rfl
  emb := fun _ => rfl

theorem fd_slices_partitionEqualOrdered_int : FDok prog (202, D_slices_partitionEqualOrdered_int) := fn_ok mixed (env_ok (List.forall_mem_cons.2 ⟨fd_cmp_Less_int, fun _ h => absurd h List.not_mem_nil⟩)) tabOK ok_slices_partitionEqualOrdered_int

theorem e_slices_partitionOrdered_int : ∀ x : D_slices_partitionOrdered_int.T, ((acode E_slices_partitionOrdered_int tt Z_slices_partitionOrdered_int (orcOf O_slices_partitionOrdered_int) C_slices_partitionOrdered_int (entry A_slices_partitionOrdered_int I_slices_partitionOrdered_int x)).map (keepRet tt K_slices_partitionOrdered_int)).ev = ((T_slices_partitionOrdered_int x.1.2.1 x.1.2.2.1 x.1.2.2.2.1 x.2.1).map fun r => some ((((r.1, (r.2.1, ())), (r.2.2, ()))) : K_slices_partitionOrdered_int.T)).ev := fun _ => by kernel_rfl

noncomputable def B_slices_partitionOrdered_int_0 : Code := ((loopsOf C_slices_partitionOrdered_int).find? fun p => Nat.beq p.1 0).elim .skip (·.2)
theorem l_slices_partitionOrdered_int_0 : (DL_slices_partitionOrdered_int_0).OK E_slices_partitionOrdered_int tt Z_slices_partitionOrdered_int (orcOf O_slices_partitionOrdered_int) B_slices_partitionOrdered_int_0 where
  ok := by kernel_rfl
  oke := by kernel_rfl
  okr := by kernel_rfl
  eta := fun _ => rfl
  step := fun _ _ => by kernel_rfl

noncomputable def B_slices_partitionOrdered_int_2 : Code := ((loopsOf C_slices_partitionOrdered_int).find? fun p => Nat.beq p.1 2).elim .skip (·.2)
theorem l_slices_partitionOrdered_int_2 : (DL_slices_partitionOrdered_int_2).OK E_slices_partitionOrdered_int tt Z_slices_partitionOrdered_int (orcOf O_slices_partitionOrdered_int) B_slices_partitionOrdered_int_2 where
  ok := by kernel_rfl
  oke := by kernel_rfl
  okr := by kernel_rfl
  eta := fun _ => rfl
  step := fun _ _ => by kernel_rfl

noncomputable def B_slices_partitionOrdered_int_6 : Code := ((loopsOf C_slices_partitionOrdered_int).find? fun p => Nat.beq p.1 6).elim .skip (·.2)
theorem l_slices_partitionOrdered_int_6 : (DL_slices_partitionOrdered_int_6).OK E_slices_partitionOrdered_int tt Z_slices_partitionOrdered_int (orcOf O_slices_partitionOrdered_int) B_slices_partitionOrdered_int_6 where
  ok := by kernel_rfl
  oke := by kernel_rfl
  okr := by kernel_rfl
  eta := fun _ => rfl
  step := fun _ _ => by kernel_rfl

noncomputable def B_slices_partitionOrdered_int_8 : Code := ((loopsOf C_slices_partitionOrdered_int).find? fun p => Nat.beq p.1 8).elim .skip (·.2)
theorem l_slices_partitionOrdered_int_8 : (DL_slices_partitionOrdered_int_8).OK E_slices_partitionOrdered_int tt Z_slices_partitionOrdered_int (orcOf O_slices_partitionOrdered_int) B_slices_partitionOrdered_int_8 where
  ok := by kernel_rfl
  oke := by kernel_rfl
  okr := by kernel_rfl
  eta := fun _ => rfl
  step := fun _ _ => by kernel_rfl

noncomputable def B_slices_partitionOrdered_int_4 : Code := ((loopsOf C_slices_partitionOrdered_int).find? fun p => Nat.beq p.1 4).elim .skip (·.2)
theorem l_slices_partitionOrdered_int_4 : (DL_slices_partitionOrdered_int_4).OK E_slices_partitionOrdered_int tt Z_slices_partitionOrdered_int (orcOf O_slices_partitionOrdered_int) B_slices_partitionOrdered_int_4 where
  ok := by kernel_rfl
  oke := by kernel_rfl
  okr := by kernel_rfl
  eta := fun _ => rfl
  step := fun _ _ => by kernel_rfl

theorem o_slices_partitionOrdered_int : LoopsOK E_slices_partitionOrdered_int tt Z_slices_partitionOrdered_int O_slices_partitionOrdered_int C_slices_partitionOrdered_int := by
  have h : loopsOf C_slices_partitionOrdered_int = [(0, B_slices_partitionOrdered_int_0), (2, B_slices_partitionOrdered_int_2), (4, B_slices_partitionOrdered_int_4), (6, B_slices_partitionOrdered_int_6), (8, B_slices_partitionOrdered_int_8)] := by kernel_rfl
  unfold LoopsOK
  rw [h]
  exact List.forall_mem_cons.2 ⟨fun d h => (by have e : some (DL_slices_partitionOrdered_int_0) = some d := h; cases e; exact l_slices_partitionOrdered_int_0), List.forall_mem_cons.2 ⟨fun d h => (by have e : some (DL_slices_partitionOrdered_int_2) = some d := h; cases e; exact l_slices_partitionOrdered_int_2), List.forall_mem_cons.2 ⟨fun d h => (by have e : some (DL_slices_partitionOrdered_int_4) = some d := h; cases e; exact l_slices_partitionOrdered_int_4), List.forall_mem_cons.2 ⟨fun d h => (by have e : some (DL_slices_partitionOrdered_int_6) = some d := h; cases e; exact l_slices_partitionOrdered_int_6), List.forall_mem_cons.2 ⟨fun d h => (by have e : some (DL_slices_partitionOrdered_int_8) = some d := h; cases e; exact l_slices_partitionOrdered_int_8), fun _ h => absurd h List.not_mem_nil⟩⟩⟩⟩⟩

theorem ok_slices_partitionOrdered_int : FnOK prog E_slices_partitionOrdered_int tt 203 D_slices_partitionOrdered_int K_slices_partitionOrdered_int Z_slices_partitionOrdered_int O_slices_partitionOrdered_int f203 C_slices_partitionOrdered_int (fun x => T_slices_partitionOrdered_int x.1.2.1 x.1.2.2.1 x.1.2.2.2.1 x.2.1) (fun r => ((r.1, (r.2.1, ())), (r.2.2, ()))) where
  at_ := func203
  name := by kernel_rfl
  body := by kernel_rfl
  res := by kernel_rfl
  ok := by kernel_rfl
  arity := fun _ => Nat.le_of_ble_eq_true (by kernel_rfl)
  pin := fun _ => by kernel_rfl
  chk := by kernel_rfl
  loops := o_slices_partitionOrdered_int
  run := e_slices_partitionOrdered_int
  F := fun _ => rfl
  emb := fun _ => rfl

theorem fd_slices_partitionOrdered_int : FDok prog (203, D_slices_partitionOrdered_int) := fn_ok mixed (env_ok (List.forall_mem_cons.2 ⟨fd_cmp_Less_int, fun _ h => absurd h List.not_mem_nil⟩)) tabOK ok_slices_partitionOrdered_int

theorem e_slices_pdqsortOrdered_int (rec_ : (Int) → (Int) → (Int) → (List (Int)) → Option (List (Int))) : ∀ x : (Dr_slices_pdqsortOrdered_int rec_).T, ((acode (E_slices_pdqsortOrdered_int rec_) tt Z_slices_pdqsortOrdered_int (orcOf (O_slices_pdqsortOrdered_int rec_)) C_slices_pdqsortOrdered_int (entry A_slices_pdqsortOrdered_int I_slices_pdqsortOrdered_int x)).map (keepRet tt K_slices_pdqsortOrdered_int)).ev = ((T_slices_pdqsortOrdered_int rec_ x.1.2.1 x.1.2.2.1 x.1.2.2.2.1 x.2.1).map fun r => some ((((), (r, ()))) : K_slices_pdqsortOrdered_int.T)).ev := fun _ => by kernel_rfl

noncomputable def B_slices_pdqsortOrdered_int_0 : Code := ((loopsOf C_slices_pdqsortOrdered_int).find? fun p => Nat.beq p.1 0).elim .skip (·.2)
theorem l_slices_pdqsortOrdered_int_0 (rec_ : (Int) → (Int) → (Int) → (List (Int)) → Option (List (Int))) : (DL_slices_pdqsortOrdered_int_0 rec_).OK (E_slices_pdqsortOrdered_int rec_) tt Z_slices_pdqsortOrdered_int (orcOf (O_slices_pdqsortOrdered_int rec_)) B_slices_pdqsortOrdered_int_0 where
  ok := by kernel_rfl
  oke := by kernel_rfl
  okr := by kernel_rfl
  eta := fun _ => rfl
  step := fun _ _ => by kernel_rfl

theorem o_slices_pdqsortOrdered_int (rec_ : (Int) → (Int) → (Int) → (List (Int)) → Option (List (Int))) : LoopsOK (E_slices_pdqsortOrdered_int rec_) tt Z_slices_pdqsortOrdered_int (O_slices_pdqsortOrdered_int rec_) C_slices_pdqsortOrdered_int := by
  have h : loopsOf C_slices_pdqsortOrdered_int = [(0, B_slices_pdqsortOrdered_int_0)] := by kernel_rfl
  unfold LoopsOK
  rw [h]
  exact List.forall_mem_cons.2 ⟨fun d h => (by have e : some (DL_slices_pdqsortOrdered_int_0 rec_) = some d := h; cases e; exact l_slices_pdqsortOrdered_int_0 rec_), fun _ h => absurd h List.not_mem_nil⟩

theorem ok_slices_pdqsortOrdered_int (n : Nat) : FnOK prog (E_slices_pdqsortOrdered_int (F_slices_pdqsortOrdered_int n)) tt 187 (D_slices_pdqsortOrdered_int (n + 1)) K_slices_pdqsortOrdered_int Z_slices_pdqsortOrdered_int (O_slices_pdqsortOrdered_int (F_slices_pdqsortOrdered_int n)) f187 C_slices_pdqsortOrdered_int (fun x => T_slices_pdqsortOrdered_int (F_slices_pdqsortOrdered_int n) x.1.2.1 x.1.2.2.1 x.1.2.2.2.1 x.2.1) (fun r => ((), (r, ()))) where
  at_ := func187
  name := by kernel_rfl
  body := by kernel_rfl
  res := by kernel_rfl
  ok := by kernel_rfl
  arity := fun _ => Nat.le_of_ble_eq_true (by kernel_rfl)
  pin := fun _ => by kernel_rfl
  chk := by kernel_rfl
  loops := o_slices_pdqsortOrdered_int (F_slices_pdqsortOrdered_int n)
  run := e_slices_pdqsortOrdered_int (F_slices_pdqsortOrdered_int n)
  F := fun _ => rfl
  emb := fun _ => rfl

theorem fd_slices_pdqsortOrdered_int : ∀ n : Nat, FDok prog (187, D_slices_pdqsortOrdered_int n)
  | 0 => fun _ _ h => nomatch h
  | n + 1 => fn_ok mixed (env_ok (List.forall_mem_cons.2 ⟨fd_slices_insertionSortOrdered_int, List.forall_mem_cons.2 ⟨fd_slices_heapSortOrdered_int, List.forall_mem_cons.2 ⟨fd_slices_breakPatternsOrdered_int, List.forall_mem_cons.2 ⟨fd_slices_choosePivotOrdered_int, List.forall_mem_cons.2 ⟨fd_slices_reverseRangeOrdered_int, List.forall_mem_cons.2 ⟨fd_slices_partialInsertionSortOrdered_int, List.forall_mem_cons.2 ⟨fd_cmp_Less_int, List.forall_mem_cons.2 ⟨fd_slices_partitionEqualOrdered_int, List.forall_mem_cons.2 ⟨fd_slices_partitionOrdered_int, List.forall_mem_cons.2 ⟨fd_slices_pdqsortOrdered_int n, fun _ h => absurd h List.not_mem_nil⟩⟩⟩⟩⟩⟩⟩⟩⟩⟩)) tabOK (ok_slices_pdqsortOrdered_int n)

theorem e_slices_Sort_Sint_int : ∀ x : D_slices_Sort_Sint_int.T, ((acode E_slices_Sort_Sint_int tt Z_slices_Sort_Sint_int (orcOf O_slices_Sort_Sint_int) C_slices_Sort_Sint_int (entry A_slices_Sort_Sint_int I_slices_Sort_Sint_int x)).map (keepRet tt K_slices_Sort_Sint_int)).ev = ((T_slices_Sort_Sint_int x.2.1).map fun r => some ((((), (r, ()))) : K_slices_Sort_Sint_int.T)).ev := fun _ => by kernel_rfl

theorem o_slices_Sort_Sint_int : LoopsOK E_slices_Sort_Sint_int tt Z_slices_Sort_Sint_int O_slices_Sort_Sint_int C_slices_Sort_Sint_int := by
  have h : loopsOf C_slices_Sort_Sint_int = [] := by kernel_rfl
  unfold LoopsOK
  rw [h]
  exact fun _ h => absurd h List.not_mem_nil

theorem ok_slices_Sort_Sint_int : FnOK prog E_slices_Sort_Sint_int tt 166 D_slices_Sort_Sint_int K_slices_Sort_Sint_int Z_slices_Sort_Sint_int O_slices_Sort_Sint_int f166 C_slices_Sort_Sint_int (fun x => T_slices_Sort_Sint_int x.2.1) (fun r => ((), (r, ()))) where
  at_ := func166
  name := by kernel_rfl
  body := by kernel_rfl
  res := by kernel_rfl
  ok := by kernel_rfl
  arity := fun _ => Nat.le_of_ble_eq_true (by kernel_rfl)
  pin := fun _ => by kernel_rfl
  chk := by kernel_rfl
  loops := o_slices_Sort_Sint_int
  run := e_slices_Sort_Sint_int
  F := fun _ => rfl
  emb := fun _ => rfl

theorem fd_slices_Sort_Sint_int : FDok prog (166, D_slices_Sort_Sint_int) := fn_ok mixed (env_ok (List.forall_mem_cons.2 ⟨fd_math_bits_Len, List.forall_mem_cons.2 ⟨fd_slices_pdqsortOrdered_int 1000000, fun _ h => absurd h List.not_mem_nil⟩⟩)) tabOK ok_slices_Sort_Sint_int

theorem e_im_Field_ordered : ∀ x : D_im_Field_ordered.T, ((acode E_im_Field_ordered tt Z_im_Field_ordered (orcOf O_im_Field_ordered) C_im_Field_ordered (entry A_im_Field_ordered I_im_Field_ordered x)).map (keepRet tt K_im_Field_ordered)).ev = ((T_im_Field_ordered x.1.1.1 x.1.1.2.1 x.1.2.1 x.1.2.2.1).map fun r => some ((((r, ()), ())) : K_im_Field_ordered.T)).ev := fun _ => by kernel_rfl

noncomputable def B_im_Field_ordered_0 : Code := ((loopsOf C_im_Field_ordered).find? fun p => Nat.beq p.1 0).elim .skip (·.2)
theorem l_im_Field_ordered_0 : (DL_im_Field_ordered_0).OK E_im_Field_ordered tt Z_im_Field_ordered (orcOf O_im_Field_ordered) B_im_Field_ordered_0 where
  ok := by kernel_rfl
  oke := by kernel_rfl
  okr := by kernel_rfl
  eta := fun _ => rfl
  step := fun _ _ => by kernel_rfl

theorem o_im_Field_ordered : LoopsOK E_im_Field_ordered tt Z_im_Field_ordered O_im_Field_ordered C_im_Field_ordered := by
  have h : loopsOf C_im_Field_ordered = [(0, B_im_Field_ordered_0)] := by kernel_rfl
  unfold LoopsOK
  rw [h]
  exact List.forall_mem_cons.2 ⟨fun d h => (by have e : some (DL_im_Field_ordered_0) = some d := h; cases e; exact l_im_Field_ordered_0), fun _ h => absurd h List.not_mem_nil⟩

theorem ok_im_Field_ordered : FnOK prog E_im_Field_ordered tt 121 D_im_Field_ordered K_im_Field_ordered Z_im_Field_ordered O_im_Field_ordered f121 C_im_Field_ordered (fun x => T_im_Field_ordered x.1.1.1 x.1.1.2.1 x.1.2.1 x.1.2.2.1) (fun r => ((r, ()), ())) where
  at_ := func121
  name := by kernel_rfl
  body := by kernel_rfl
  res := by kernel_rfl
  ok := by kernel_rfl
  arity := fun _ => Nat.le_of_ble_eq_true (by kernel_rfl)
  pin := fun _ => by kernel_rfl
  chk := by kernel_rfl
  loops := o_im_Field_ordered
  run := e_im_Field_ordered
  F := fun _ => rfl
  emb := fun _ => rfl

theorem fd_im_Field_ordered : FDok prog (121, D_im_Field_ordered) := fn_ok mixed (env_ok (List.forall_mem_cons.2 ⟨fd_im_Field_lengths, List.forall_mem_cons.2 ⟨fd_slices_Sort_Sint_int, fun _ h => absurd h List.not_mem_nil⟩⟩)) tabOK ok_im_Field_ordered

theorem e_im_OrderedValue : ∀ x : D_im_OrderedValue.T, ((acode E_im_OrderedValue tt Z_im_OrderedValue (orcOf O_im_OrderedValue) C_im_OrderedValue (entry A_im_OrderedValue I_im_OrderedValue x)).map (keepRet tt K_im_OrderedValue)).ev = ((T_im_OrderedValue x.1.1.1 x.1.1.2.1 x.1.2.1 x.1.2.2.1).map fun r => some ((((r.1, (r.2, ())), ())) : K_im_OrderedValue.T)).ev := fun _ => by kernel_rfl

theorem o_im_OrderedValue : LoopsOK E_im_OrderedValue tt Z_im_OrderedValue O_im_OrderedValue C_im_OrderedValue := by
  have h : loopsOf C_im_OrderedValue = [] := by kernel_rfl
  unfold LoopsOK
  rw [h]
  exact fun _ h => absurd h List.not_mem_nil

theorem ok_im_OrderedValue : FnOK prog E_im_OrderedValue tt 62 D_im_OrderedValue K_im_OrderedValue Z_im_OrderedValue O_im_OrderedValue f62 C_im_OrderedValue (fun x => T_im_OrderedValue x.1.1.1 x.1.1.2.1 x.1.2.1 x.1.2.2.1) (fun r => ((r.1, (r.2, ())), ())) where
  at_ := func62
  name := by kernel_rfl
  body := by kernel_rfl
  res := by kernel_rfl
  ok := by kernel_rfl
  arity := fun _ => Nat.le_of_ble_eq_true (by kernel_rfl)
  pin := fun _ => by kernel_rfl
  chk := by kernel_rfl
  loops := o_im_OrderedValue
  run := e_im_OrderedValue
  F := fun _ => rfl
  emb := fun _ => rfl

theorem fd_im_OrderedValue : FDok prog (62, D_im_OrderedValue) := fn_ok mixed (env_ok (List.forall_mem_cons.2 ⟨fd_im_isOpened, List.forall_mem_cons.2 ⟨fd_im_Field_areWeights, List.forall_mem_cons.2 ⟨fd_im_Field_ordered, fun _ h => absurd h List.not_mem_nil⟩⟩⟩)) tabOK ok_im_OrderedValue

theorem e_lw_eqIntS : ∀ x : D_lw_eqIntS.T, ((acode E_lw_eqIntS tt Z_lw_eqIntS (orcOf O_lw_eqIntS) C_lw_eqIntS (entry A_lw_eqIntS I_lw_eqIntS x)).map (keepRet tt K_lw_eqIntS)).ev = ((T_lw_eqIntS x.1.1 x.1.2.1).map fun r => some ((((r, ()), ())) : K_lw_eqIntS.T)).ev := fun _ => by kernel_rfl

noncomputable def B_lw_eqIntS_0 : Code := ((loopsOf C_lw_eqIntS).find? fun p => Nat.beq p.1 0).elim .skip (·.2)
theorem l_lw_eqIntS_0 : (DL_lw_eqIntS_0).OK E_lw_eqIntS tt Z_lw_eqIntS (orcOf O_lw_eqIntS) B_lw_eqIntS_0 where
  ok := by kernel_rfl
  oke := by kernel_rfl
  okr := by kernel_rfl
  eta := fun _ => rfl
  step := fun _ _ => by kernel_rfl

theorem o_lw_eqIntS : LoopsOK E_lw_eqIntS tt Z_lw_eqIntS O_lw_eqIntS C_lw_eqIntS := by
  have h : loopsOf C_lw_eqIntS = [(0, B_lw_eqIntS_0)] := by kernel_rfl
  unfold LoopsOK
  rw [h]
  exact List.forall_mem_cons.2 ⟨fun d h => (by have e : some (DL_lw_eqIntS_0) = some d := h; cases e; exact l_lw_eqIntS_0), fun _ h => absurd h List.not_mem_nil⟩

theorem ok_lw_eqIntS : FnOK prog E_lw_eqIntS tt 38 D_lw_eqIntS K_lw_eqIntS Z_lw_eqIntS O_lw_eqIntS f38 C_lw_eqIntS (fun x => T_lw_eqIntS x.1.1 x.1.2.1) (fun r => ((r, ()), ())) where
  at_ := func38
  name := by kernel_rfl
  body := by kernel_rfl
  res := by kernel_rfl
  ok := by kernel_rfl
  arity := fun _ => Nat.le_of_ble_eq_true (by kernel_rfl)
  pin := fun _ => by kernel_rfl
  chk := by kernel_rfl
  loops := o_lw_eqIntS
  run := e_lw_eqIntS
  F := fun _ => rfl
  emb := fun _ => rfl

theorem fd_lw_eqIntS : FDok prog (38, D_lw_eqIntS) := fn_ok mixed (env_ok (fun _ h => absurd h List.not_mem_nil)) tabOK ok_lw_eqIntS

theorem e_lw_eqIntSS : ∀ x : D_lw_eqIntSS.T, ((acode E_lw_eqIntSS tt Z_lw_eqIntSS (orcOf O_lw_eqIntSS) C_lw_eqIntSS (entry A_lw_eqIntSS I_lw_eqIntSS x)).map (keepRet tt K_lw_eqIntSS)).ev = ((T_lw_eqIntSS x.1.1 x.1.2.1).map fun r => some ((((r, ()), ())) : K_lw_eqIntSS.T)).ev := fun _ => by kernel_rfl

noncomputable def B_lw_eqIntSS_0 : Code := ((loopsOf C_lw_eqIntSS).find? fun p => Nat.beq p.1 0).elim .skip (·.2)
theorem l_lw_eqIntSS_0 : (DL_lw_eqIntSS_0).OK E_lw_eqIntSS tt Z_lw_eqIntSS (orcOf O_lw_eqIntSS) B_lw_eqIntSS_0 where
  ok := by kernel_rfl
  oke := by kernel_rfl
  okr := by kernel_rfl
  eta := fun _ => rfl
  step := fun _ _ => by kernel_rfl

theorem o_lw_eqIntSS : LoopsOK E_lw_eqIntSS tt Z_lw_eqIntSS O_lw_eqIntSS C_lw_eqIntSS := by
  have h : loopsOf C_lw_eqIntSS = [(0, B_lw_eqIntSS_0)] := by kernel_rfl
  unfold LoopsOK
  rw [h]
  exact List.forall_mem_cons.2 ⟨fun d h => (by have e : some (DL_lw_eqIntSS_0) = some d := h; cases e; exact l_lw_eqIntSS_0), fun _ h => absurd h List.not_mem_nil⟩

theorem ok_lw_eqIntSS : FnOK prog E_lw_eqIntSS tt 19 D_lw_eqIntSS K_lw_eqIntSS Z_lw_eqIntSS O_lw_eqIntSS f19 C_lw_eqIntSS (fun x => T_lw_eqIntSS x.1.1 x.1.2.1) (fun r => ((r, ()), ())) where
  at_ := func19
  name := by kernel_rfl
  body := by kernel_rfl
  res := by kernel_rfl
  ok := by kernel_rfl
  arity := fun _ => Nat.le_of_ble_eq_true (by kernel_rfl)
  pin := fun _ => by kernel_rfl
  chk := by kernel_rfl
  loops := o_lw_eqIntSS
  run := e_lw_eqIntSS
  F := fun _ => rfl
  emb := fun _ => rfl

theorem fd_lw_eqIntSS : FDok prog (19, D_lw_eqIntSS) := fn_ok mixed (env_ok (List.forall_mem_cons.2 ⟨fd_lw_eqIntS, fun _ h => absurd h List.not_mem_nil⟩)) tabOK ok_lw_eqIntSS

theorem e_lw_eqField : ∀ x : D_lw_eqField.T, ((acode E_lw_eqField tt Z_lw_eqField (orcOf O_lw_eqField) C_lw_eqField (entry A_lw_eqField I_lw_eqField x)).map (keepRet tt K_lw_eqField)).ev = ((T_lw_eqField x.1.1.1 x.1.1.2.1 x.1.2.1.1 x.1.2.1.2.1).map fun r => some ((((r, ()), ())) : K_lw_eqField.T)).ev := fun _ => by kernel_rfl

theorem o_lw_eqField : LoopsOK E_lw_eqField tt Z_lw_eqField O_lw_eqField C_lw_eqField := by
  have h : loopsOf C_lw_eqField = [] := by kernel_rfl
  unfold LoopsOK
  rw [h]
  exact fun _ h => absurd h List.not_mem_nil

theorem ok_lw_eqField : FnOK prog E_lw_eqField tt 27 D_lw_eqField K_lw_eqField Z_lw_eqField O_lw_eqField f27 C_lw_eqField (fun x => T_lw_eqField x.1.1.1 x.1.1.2.1 x.1.2.1.1 x.1.2.1.2.1) (fun r => ((r, ()), ())) where
  at_ := func27
  name := by kernel_rfl
  body := by kernel_rfl
  res := by kernel_rfl
  ok := by kernel_rfl
  arity := fun _ => Nat.le_of_ble_eq_true (by kernel_rfl)
  pin := fun _ => by kernel_rfl
  chk := by kernel_rfl
  loops := o_lw_eqField
  run := e_lw_eqField
  F := fun _ => rfl
  emb := fun _ => rfl

theorem fd_lw_eqField : FDok prog (27, D_lw_eqField) := fn_ok mixed (env_ok (List.forall_mem_cons.2 ⟨fd_lw_eqIntS, List.forall_mem_cons.2 ⟨fd_lw_eqIntSS, fun _ h => absurd h List.not_mem_nil⟩⟩)) tabOK ok_lw_eqField

theorem e_lw_FnExactOrderedValue : ∀ x : D_lw_FnExactOrderedValue.T, ((acode E_lw_FnExactOrderedValue tt Z_lw_FnExactOrderedValue (orcOf O_lw_FnExactOrderedValue) C_lw_FnExactOrderedValue (entry A_lw_FnExactOrderedValue I_lw_FnExactOrderedValue x)).map (keepRet tt K_lw_FnExactOrderedValue)).ev = ((T_lw_FnExactOrderedValue x.1.1.1 x.1.1.2.1 x.1.2.1 x.1.2.2.1).map fun r => some ((((r, ()), ())) : K_lw_FnExactOrderedValue.T)).ev := fun _ => by kernel_rfl

theorem o_lw_FnExactOrderedValue : LoopsOK E_lw_FnExactOrderedValue tt Z_lw_FnExactOrderedValue O_lw_FnExactOrderedValue C_lw_FnExactOrderedValue := by
  have h : loopsOf C_lw_FnExactOrderedValue = [] := by kernel_rfl
  unfold LoopsOK
  rw [h]
  exact fun _ h => absurd h List.not_mem_nil

theorem ok_lw_FnExactOrderedValue : FnOK prog E_lw_FnExactOrderedValue tt 11 D_lw_FnExactOrderedValue K_lw_FnExactOrderedValue Z_lw_FnExactOrderedValue O_lw_FnExactOrderedValue f11 C_lw_FnExactOrderedValue (fun x => T_lw_FnExactOrderedValue x.1.1.1 x.1.1.2.1 x.1.2.1 x.1.2.2.1) (fun r => ((r, ()), ())) where
  at_ := func11
  name := by kernel_rfl
  body := by kernel_rfl
  res := by kernel_rfl
  ok := by kernel_rfl
  arity := fun _ => Nat.le_of_ble_eq_true (by kernel_rfl)
  pin := fun _ => by kernel_rfl
  chk := by kernel_rfl
  loops := o_lw_FnExactOrderedValue
  run := e_lw_FnExactOrderedValue
  F := fun _ => rfl
  emb := fun _ => rfl

theorem fd_lw_FnExactOrderedValue : FDok prog (11, D_lw_FnExactOrderedValue) := fn_ok mixed (env_ok (List.forall_mem_cons.2 ⟨fd_lw_szField, List.forall_mem_cons.2 ⟨fd_lw_toField, List.forall_mem_cons.2 ⟨fd_lw_toIntS, List.forall_mem_cons.2 ⟨fd_sp_OrderedValue, List.forall_mem_cons.2 ⟨fd_im_OrderedValue, List.forall_mem_cons.2 ⟨fd_lw_eqField, List.forall_mem_cons.2 ⟨fd_lw_eqIntS, fun _ h => absurd h List.not_mem_nil⟩⟩⟩⟩⟩⟩⟩)) tabOK ok_lw_FnExactOrderedValue
end Go.Proofs.Ythkafleokepjeaa
