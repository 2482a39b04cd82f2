import Derived.Test.YtlmbhkmaflhagaaC1
namespace Go.Proofs.Ytlmbhkmaflhagaa
open Go.Proofs.Try
theorem mixed : prog.follows .mixedOrders = true := by kernel_rfl
theorem tabOK : TabOK prog tt := tab_ok (by kernel_rfl)
theorem e_lw_szIntS : ∀ x : D_lw_szIntS.T, ((acode E_lw_szIntS tt Z_lw_szIntS (orcOf O_lw_szIntS) C_lw_szIntS (entry A_lw_szIntS I_lw_szIntS x)).map (keepRet tt K_lw_szIntS)).ev = ((T_lw_szIntS x.1.1 x.1.2.1).map fun r => some ((((r, ()), ())) : K_lw_szIntS.T)).ev := fun _ => by kernel_rfl
theorem o_lw_szIntS : LoopsOK E_lw_szIntS tt Z_lw_szIntS O_lw_szIntS C_lw_szIntS := by
  have h : loopsOf C_lw_szIntS = [] := by kernel_rfl
  unfold LoopsOK
  rw [h]
  exact fun _ h => absurd h List.not_mem_nil
theorem ok_lw_szIntS : FnOK prog E_lw_szIntS tt 64 D_lw_szIntS K_lw_szIntS Z_lw_szIntS O_lw_szIntS f64 C_lw_szIntS (fun x => T_lw_szIntS x.1.1 x.1.2.1) (fun r => ((r, ()), ())) where
  at_ := func64
  name := by kernel_rfl
  body := by kernel_rfl
  res := by kernel_rfl
  ok := by kernel_rfl
  arity := fun _ => Nat.le_of_ble_eq_true (by kernel_rfl)
  pin := fun _ => by kernel_rfl
  chk := by kernel_rfl
  loops := o_lw_szIntS
  run := e_lw_szIntS
  F := fun _ => rfl
  emb := fun _ => rfl
theorem fd_lw_szIntS : FDok prog (64, D_lw_szIntS) := fn_ok mixed (env_ok (fun _ h => absurd h List.not_mem_nil)) tabOK ok_lw_szIntS
theorem e_lw_szIntSS : ∀ x : D_lw_szIntSS.T, ((acode E_lw_szIntSS tt Z_lw_szIntSS (orcOf O_lw_szIntSS) C_lw_szIntSS (entry A_lw_szIntSS I_lw_szIntSS x)).map (keepRet tt K_lw_szIntSS)).ev = ((T_lw_szIntSS x.1.1 x.1.2.1).map fun r => some ((((r, ()), ())) : K_lw_szIntSS.T)).ev := fun _ => by kernel_rfl
noncomputable def B_lw_szIntSS_0 : Code := ((loopsOf C_lw_szIntSS).find? fun p => Nat.beq p.1 0).elim .skip (·.2)
theorem l_lw_szIntSS_0 : (DL_lw_szIntSS_0).OK E_lw_szIntSS tt Z_lw_szIntSS (orcOf O_lw_szIntSS) B_lw_szIntSS_0 where
  ok := by kernel_rfl
  oke := by kernel_rfl
  okr := by kernel_rfl
  eta := fun _ => rfl
  step := fun _ _ => by kernel_rfl
theorem o_lw_szIntSS : LoopsOK E_lw_szIntSS tt Z_lw_szIntSS O_lw_szIntSS C_lw_szIntSS := by
  have h : loopsOf C_lw_szIntSS = [(0, B_lw_szIntSS_0)] := by kernel_rfl
  unfold LoopsOK
  rw [h]
  exact List.forall_mem_cons.2 ⟨fun d h => (by have e : some (DL_lw_szIntSS_0) = some d := h; cases e; exact l_lw_szIntSS_0), fun _ h => absurd h List.not_mem_nil⟩
theorem ok_lw_szIntSS : FnOK prog E_lw_szIntSS tt 18 D_lw_szIntSS K_lw_szIntSS Z_lw_szIntSS O_lw_szIntSS f18 C_lw_szIntSS (fun x => T_lw_szIntSS x.1.1 x.1.2.1) (fun r => ((r, ()), ())) where
  at_ := func18
  name := by kernel_rfl
  body := by kernel_rfl
  res := by kernel_rfl
  ok := by kernel_rfl
  arity := fun _ => Nat.le_of_ble_eq_true (by kernel_rfl)
  pin := fun _ => by kernel_rfl
  chk := by kernel_rfl
  loops := o_lw_szIntSS
  run := e_lw_szIntSS
  F := fun _ => rfl
  emb := fun _ => rfl
theorem fd_lw_szIntSS : FDok prog (18, D_lw_szIntSS) := fn_ok mixed (env_ok (List.forall_mem_cons.2 ⟨fd_lw_szIntS, fun _ h => absurd h List.not_mem_nil⟩)) tabOK ok_lw_szIntSS
theorem e_lw_szIntSSS : ∀ x : D_lw_szIntSSS.T, ((acode E_lw_szIntSSS tt Z_lw_szIntSSS (orcOf O_lw_szIntSSS) C_lw_szIntSSS (entry A_lw_szIntSSS I_lw_szIntSSS x)).map (keepRet tt K_lw_szIntSSS)).ev = ((T_lw_szIntSSS x.1.1 x.1.2.1).map fun r => some ((((r, ()), ())) : K_lw_szIntSSS.T)).ev := fun _ => by kernel_rfl
noncomputable def B_lw_szIntSSS_0 : Code := ((loopsOf C_lw_szIntSSS).find? fun p => Nat.beq p.1 0).elim .skip (·.2)
theorem l_lw_szIntSSS_0 : (DL_lw_szIntSSS_0).OK E_lw_szIntSSS tt Z_lw_szIntSSS (orcOf O_lw_szIntSSS) B_lw_szIntSSS_0 where
  ok := by kernel_rfl
  oke := by kernel_rfl
  okr := by kernel_rfl
  eta := fun _ => rfl
  step := fun _ _ => by kernel_rfl
theorem o_lw_szIntSSS : LoopsOK E_lw_szIntSSS tt Z_lw_szIntSSS O_lw_szIntSSS C_lw_szIntSSS := by
  have h : loopsOf C_lw_szIntSSS = [(0, B_lw_szIntSSS_0)] := by kernel_rfl
  unfold LoopsOK
  rw [h]
  exact List.forall_mem_cons.2 ⟨fun d h => (by have e : some (DL_lw_szIntSSS_0) = some d := h; cases e; exact l_lw_szIntSSS_0), fun _ h => absurd h List.not_mem_nil⟩
theorem ok_lw_szIntSSS : FnOK prog E_lw_szIntSSS tt 65 D_lw_szIntSSS K_lw_szIntSSS Z_lw_szIntSSS O_lw_szIntSSS f65 C_lw_szIntSSS (fun x => T_lw_szIntSSS x.1.1 x.1.2.1) (fun r => ((r, ()), ())) where
  at_ := func65
  name := by kernel_rfl
  body := by kernel_rfl
  res := by kernel_rfl
  ok := by kernel_rfl
  arity := fun _ => Nat.le_of_ble_eq_true (by kernel_rfl)
  pin := fun _ => by kernel_rfl
  chk := by kernel_rfl
  loops := o_lw_szIntSSS
  run := e_lw_szIntSSS
  F := fun _ => rfl
  emb := fun _ => rfl
theorem fd_lw_szIntSSS : FDok prog (65, D_lw_szIntSSS) := fn_ok mixed (env_ok (List.forall_mem_cons.2 ⟨fd_lw_szIntSS, fun _ h => absurd h List.not_mem_nil⟩)) tabOK ok_lw_szIntSSS
theorem e_lw_szSeason : ∀ x : D_lw_szSeason.T, ((acode E_lw_szSeason tt Z_lw_szSeason (orcOf O_lw_szSeason) C_lw_szSeason (entry A_lw_szSeason I_lw_szSeason x)).map (keepRet tt K_lw_szSeason)).ev = ((T_lw_szSeason x.1.1.1 x.1.1.2.1 x.1.1.2.2.1 x.1.1.2.2.2.1 x.1.2.1).map fun r => some ((((r, ()), ())) : K_lw_szSeason.T)).ev := fun _ => by kernel_rfl
theorem o_lw_szSeason : LoopsOK E_lw_szSeason tt Z_lw_szSeason O_lw_szSeason C_lw_szSeason := by
  have h : loopsOf C_lw_szSeason = [] := by kernel_rfl
  unfold LoopsOK
  rw [h]
  exact fun _ h => absurd h List.not_mem_nil
theorem ok_lw_szSeason : FnOK prog E_lw_szSeason tt 13 D_lw_szSeason K_lw_szSeason Z_lw_szSeason O_lw_szSeason f13 C_lw_szSeason (fun x => T_lw_szSeason x.1.1.1 x.1.1.2.1 x.1.1.2.2.1 x.1.1.2.2.2.1 x.1.2.1) (fun r => ((r, ()), ())) where
  at_ := func13
  name := by kernel_rfl
  body := by kernel_rfl
  res := by kernel_rfl
  ok := by kernel_rfl
  arity := fun _ => Nat.le_of_ble_eq_true (by kernel_rfl)
  pin := fun _ => by kernel_rfl
  chk := by kernel_rfl
  loops := o_lw_szSeason
  run := e_lw_szSeason
  F := fun _ => rfl
  emb := fun _ => rfl
theorem fd_lw_szSeason : FDok prog (13, D_lw_szSeason) := fn_ok mixed (env_ok (List.forall_mem_cons.2 ⟨fd_lw_szIntS, List.forall_mem_cons.2 ⟨fd_lw_szIntSSS, fun _ h => absurd h List.not_mem_nil⟩⟩)) tabOK ok_lw_szSeason
theorem e_lw_toIntS : ∀ x : D_lw_toIntS.T, ((acode E_lw_toIntS tt Z_lw_toIntS (orcOf O_lw_toIntS) C_lw_toIntS (entry A_lw_toIntS I_lw_toIntS x)).map (keepRet tt K_lw_toIntS)).ev = ((T_lw_toIntS x.1.1).map fun r => some (((((), ()), (r, ()))) : K_lw_toIntS.T)).ev := fun _ => by kernel_rfl
noncomputable def B_lw_toIntS_0 : Code := ((loopsOf C_lw_toIntS).find? fun p => Nat.beq p.1 0).elim .skip (·.2)
theorem l_lw_toIntS_0 : (DL_lw_toIntS_0).OK E_lw_toIntS tt Z_lw_toIntS (orcOf O_lw_toIntS) B_lw_toIntS_0 where
  ok := by kernel_rfl
  oke := by kernel_rfl
  okr := by kernel_rfl
  eta := fun _ => rfl
  step := fun _ _ => by kernel_rfl
theorem o_lw_toIntS : LoopsOK E_lw_toIntS tt Z_lw_toIntS O_lw_toIntS C_lw_toIntS := by
  have h : loopsOf C_lw_toIntS = [(0, B_lw_toIntS_0)] := by kernel_rfl
  unfold LoopsOK
  rw [h]
  exact List.forall_mem_cons.2 ⟨fun d h => (by have e : some (DL_lw_toIntS_0) = some d := h; cases e; exact l_lw_toIntS_0), fun _ h => absurd h List.not_mem_nil⟩
theorem ok_lw_toIntS : FnOK prog E_lw_toIntS tt 39 D_lw_toIntS K_lw_toIntS Z_lw_toIntS O_lw_toIntS f39 C_lw_toIntS (fun x => T_lw_toIntS x.1.1) (fun r => (((), ()), (r, ()))) where
  at_ := func39
  name := by kernel_rfl
  body := by kernel_rfl
  res := by kernel_rfl
  ok := by kernel_rfl
  arity := fun _ => Nat.le_of_ble_eq_true (by kernel_rfl)
  pin := fun _ => by kernel_rfl
  chk := by kernel_rfl
  loops := o_lw_toIntS
  run := e_lw_toIntS
  F := fun _ => rfl
  emb := fun _ => rfl
theorem fd_lw_toIntS : FDok prog (39, D_lw_toIntS) := fn_ok mixed (env_ok (fun _ h => absurd h List.not_mem_nil)) tabOK ok_lw_toIntS
theorem e_lw_toIntSS : ∀ x : D_lw_toIntSS.T, ((acode E_lw_toIntSS tt Z_lw_toIntSS (orcOf O_lw_toIntSS) C_lw_toIntSS (entry A_lw_toIntSS I_lw_toIntSS x)).map (keepRet tt K_lw_toIntSS)).ev = ((T_lw_toIntSS x.1.1).map fun r => some (((((), ()), (r, ()))) : K_lw_toIntSS.T)).ev := fun _ => by kernel_rfl
noncomputable def B_lw_toIntSS_0 : Code := ((loopsOf C_lw_toIntSS).find? fun p => Nat.beq p.1 0).elim .skip (·.2)
theorem l_lw_toIntSS_0 : (DL_lw_toIntSS_0).OK E_lw_toIntSS tt Z_lw_toIntSS (orcOf O_lw_toIntSS) B_lw_toIntSS_0 where
  ok := by kernel_rfl
  oke := by kernel_rfl
  okr := by kernel_rfl
  eta := fun _ => rfl
  step := fun _ _ => by kernel_rfl
theorem o_lw_toIntSS : LoopsOK E_lw_toIntSS tt Z_lw_toIntSS O_lw_toIntSS C_lw_toIntSS := by
  have h : loopsOf C_lw_toIntSS = [(0, B_lw_toIntSS_0)] := by kernel_rfl
  unfold LoopsOK
  rw [h]
  exact List.forall_mem_cons.2 ⟨fun d h => (by have e : some (DL_lw_toIntSS_0) = some d := h; cases e; exact l_lw_toIntSS_0), fun _ h => absurd h List.not_mem_nil⟩
theorem ok_lw_toIntSS : FnOK prog E_lw_toIntSS tt 20 D_lw_toIntSS K_lw_toIntSS Z_lw_toIntSS O_lw_toIntSS f20 C_lw_toIntSS (fun x => T_lw_toIntSS x.1.1) (fun r => (((), ()), (r, ()))) where
  at_ := func20
  name := by kernel_rfl
  body := by kernel_rfl
  res := by kernel_rfl
  ok := by kernel_rfl
  arity := fun _ => Nat.le_of_ble_eq_true (by kernel_rfl)
  pin := fun _ => by kernel_rfl
  chk := by kernel_rfl
  loops := o_lw_toIntSS
  run := e_lw_toIntSS
  F := fun _ => rfl
  emb := fun _ => rfl
theorem fd_lw_toIntSS : FDok prog (20, D_lw_toIntSS) := fn_ok mixed (env_ok (List.forall_mem_cons.2 ⟨fd_lw_toIntS, fun _ h => absurd h List.not_mem_nil⟩)) tabOK ok_lw_toIntSS
theorem e_lw_toIntSSS : ∀ x : D_lw_toIntSSS.T, ((acode E_lw_toIntSSS tt Z_lw_toIntSSS (orcOf O_lw_toIntSSS) C_lw_toIntSSS (entry A_lw_toIntSSS I_lw_toIntSSS x)).map (keepRet tt K_lw_toIntSSS)).ev = ((T_lw_toIntSSS x.1.1).map fun r => some (((((), ()), (r, ()))) : K_lw_toIntSSS.T)).ev := fun _ => by kernel_rfl
noncomputable def B_lw_toIntSSS_0 : Code := ((loopsOf C_lw_toIntSSS).find? fun p => Nat.beq p.1 0).elim .skip (·.2)
theorem l_lw_toIntSSS_0 : (DL_lw_toIntSSS_0).OK E_lw_toIntSSS tt Z_lw_toIntSSS (orcOf O_lw_toIntSSS) B_lw_toIntSSS_0 where
  ok := by kernel_rfl
  oke := by kernel_rfl
  okr := by kernel_rfl
  eta := fun _ => rfl
  step := fun _ _ => by kernel_rfl
theorem o_lw_toIntSSS : LoopsOK E_lw_toIntSSS tt Z_lw_toIntSSS O_lw_toIntSSS C_lw_toIntSSS := by
  have h : loopsOf C_lw_toIntSSS = [(0, B_lw_toIntSSS_0)] := by kernel_rfl
  unfold LoopsOK
  rw [h]
  exact List.forall_mem_cons.2 ⟨fun d h => (by have e : some (DL_lw_toIntSSS_0) = some d := h; cases e; exact l_lw_toIntSSS_0), fun _ h => absurd h List.not_mem_nil⟩
theorem ok_lw_toIntSSS : FnOK prog E_lw_toIntSSS tt 68 D_lw_toIntSSS K_lw_toIntSSS Z_lw_toIntSSS O_lw_toIntSSS f68 C_lw_toIntSSS (fun x => T_lw_toIntSSS x.1.1) (fun r => (((), ()), (r, ()))) where
  at_ := func68
  name := by kernel_rfl
  body := by kernel_rfl
  res := by kernel_rfl
  ok := by kernel_rfl
  arity := fun _ => Nat.le_of_ble_eq_true (by kernel_rfl)
  pin := fun _ => by kernel_rfl
  chk := by kernel_rfl
  loops := o_lw_toIntSSS
  run := e_lw_toIntSSS
  F := fun _ => rfl
  emb := fun _ => rfl
theorem fd_lw_toIntSSS : FDok prog (68, D_lw_toIntSSS) := fn_ok mixed (env_ok (List.forall_mem_cons.2 ⟨fd_lw_toIntSS, fun _ h => absurd h List.not_mem_nil⟩)) tabOK ok_lw_toIntSSS
theorem e_lw_toSeason : ∀ x : D_lw_toSeason.T, ((acode E_lw_toSeason tt Z_lw_toSeason (orcOf O_lw_toSeason) C_lw_toSeason (entry A_lw_toSeason I_lw_toSeason x)).map (keepRet tt K_lw_toSeason)).ev = ((T_lw_toSeason x.1.1.1 x.1.1.2.1 x.1.1.2.2.1 x.1.1.2.2.2.1).map fun r => some ((((((), ((), ((), ((), ())))), ()), (r.1, (r.2.1, (r.2.2.1, (r.2.2.2, ())))))) : K_lw_toSeason.T)).ev := fun _ => by kernel_rfl
theorem o_lw_toSeason : LoopsOK E_lw_toSeason tt Z_lw_toSeason O_lw_toSeason C_lw_toSeason := by
  have h : loopsOf C_lw_toSeason = [] := by kernel_rfl
  unfold LoopsOK
  rw [h]
  exact fun _ h => absurd h List.not_mem_nil
theorem ok_lw_toSeason : FnOK prog E_lw_toSeason tt 15 D_lw_toSeason K_lw_toSeason Z_lw_toSeason O_lw_toSeason f15 C_lw_toSeason (fun x => T_lw_toSeason x.1.1.1 x.1.1.2.1 x.1.1.2.2.1 x.1.1.2.2.2.1) (fun r => ((((), ((), ((), ((), ())))), ()), (r.1, (r.2.1, (r.2.2.1, (r.2.2.2, ())))))) where
  at_ := func15
  name := by kernel_rfl
  body := by kernel_rfl
  res := by kernel_rfl
  ok := by kernel_rfl
  arity := fun _ => Nat.le_of_ble_eq_true (by kernel_rfl)
  pin := fun _ => by kernel_rfl
  chk := by kernel_rfl
  loops := o_lw_toSeason
  run := e_lw_toSeason
  F := fun _ => rfl
  emb := fun _ => rfl
theorem fd_lw_toSeason : FDok prog (15, D_lw_toSeason) := fn_ok mixed (env_ok (List.forall_mem_cons.2 ⟨fd_lw_toIntS, List.forall_mem_cons.2 ⟨fd_lw_toIntSSS, fun _ h => absurd h List.not_mem_nil⟩⟩)) tabOK ok_lw_toSeason
theorem e_sp_l1In : ∀ x : D_sp_l1In.T, ((acode E_sp_l1In tt Z_sp_l1In (orcOf O_sp_l1In) C_sp_l1In (entry A_sp_l1In I_sp_l1In x)).map (keepRet tt K_sp_l1In)).ev = ((T_sp_l1In x.1.1 x.1.2.1 x.1.2.2.1).map fun r => some ((((r, ()), ())) : K_sp_l1In.T)).ev := fun _ => by kernel_rfl
theorem o_sp_l1In : LoopsOK E_sp_l1In tt Z_sp_l1In O_sp_l1In C_sp_l1In := by
  have h : loopsOf C_sp_l1In = [] := by kernel_rfl
  unfold LoopsOK
  rw [h]
  exact fun _ h => absurd h List.not_mem_nil
theorem ok_sp_l1In : FnOK prog E_sp_l1In tt 134 D_sp_l1In K_sp_l1In Z_sp_l1In O_sp_l1In f134 C_sp_l1In (fun x => T_sp_l1In x.1.1 x.1.2.1 x.1.2.2.1) (fun r => ((r, ()), ())) where
  at_ := func134
  name := by kernel_rfl
  body := by kernel_rfl
  res := by kernel_rfl
  ok := by kernel_rfl
  arity := fun _ => Nat.le_of_ble_eq_true (by kernel_rfl)
  pin := fun _ => by kernel_rfl
  chk := by kernel_rfl
  loops := o_sp_l1In
  run := e_sp_l1In
  F := fun _ => rfl
  emb := fun _ => rfl
theorem fd_sp_l1In : FDok prog (134, D_sp_l1In) := fn_ok mixed (env_ok (fun _ h => absurd h List.not_mem_nil)) tabOK ok_sp_l1In
theorem e_sp_l2Row : ∀ x : D_sp_l2Row.T, ((acode E_sp_l2Row tt Z_sp_l2Row (orcOf O_sp_l2Row) C_sp_l2Row (entry A_sp_l2Row I_sp_l2Row x)).map (keepRet tt K_sp_l2Row)).ev = ((T_sp_l2Row x.1.1 x.1.2.1 x.1.2.2.1).map fun r => some ((((r, ()), ())) : K_sp_l2Row.T)).ev := fun _ => by kernel_rfl
noncomputable def B_sp_l2Row_0 : Code := ((loopsOf C_sp_l2Row).find? fun p => Nat.beq p.1 0).elim .skip (·.2)
theorem l_sp_l2Row_0 : (DL_sp_l2Row_0).OK E_sp_l2Row tt Z_sp_l2Row (orcOf O_sp_l2Row) B_sp_l2Row_0 where
  ok := by kernel_rfl
  oke := by kernel_rfl
  okr := by kernel_rfl
  eta := fun _ => rfl
  step := fun _ _ => by kernel_rfl
theorem o_sp_l2Row : LoopsOK E_sp_l2Row tt Z_sp_l2Row O_sp_l2Row C_sp_l2Row := by
  have h : loopsOf C_sp_l2Row = [(0, B_sp_l2Row_0)] := by kernel_rfl
  unfold LoopsOK
  rw [h]
  exact List.forall_mem_cons.2 ⟨fun d h => (by have e : some (DL_sp_l2Row_0) = some d := h; cases e; exact l_sp_l2Row_0), fun _ h => absurd h List.not_mem_nil⟩
theorem ok_sp_l2Row : FnOK prog E_sp_l2Row tt 133 D_sp_l2Row K_sp_l2Row Z_sp_l2Row O_sp_l2Row f133 C_sp_l2Row (fun x => T_sp_l2Row x.1.1 x.1.2.1 x.1.2.2.1) (fun r => ((r, ()), ())) where
  at_ := func133
  name := by kernel_rfl
  body := by kernel_rfl
  res := by kernel_rfl
  ok := by kernel_rfl
  arity := fun _ => Nat.le_of_ble_eq_true (by kernel_rfl)
  pin := fun _ => by kernel_rfl
  chk := by kernel_rfl
  loops := o_sp_l2Row
  run := e_sp_l2Row
  F := fun _ => rfl
  emb := fun _ => rfl
theorem fd_sp_l2Row : FDok prog (133, D_sp_l2Row) := fn_ok mixed (env_ok (List.forall_mem_cons.2 ⟨fd_sp_l1In, fun _ h => absurd h List.not_mem_nil⟩)) tabOK ok_sp_l2Row
theorem e_sp_l10Good : ∀ x : D_sp_l10Good.T, ((acode E_sp_l10Good tt Z_sp_l10Good (orcOf O_sp_l10Good) C_sp_l10Good (entry A_sp_l10Good I_sp_l10Good x)).map (keepRet tt K_sp_l10Good)).ev = ((T_sp_l10Good x.1.1.1 x.1.1.2.1 x.1.1.2.2.1 x.1.1.2.2.2.1).map fun r => some ((((r, ()), ())) : K_sp_l10Good.T)).ev := fun _ => by kernel_rfl
noncomputable def B_sp_l10Good_2 : Code := ((loopsOf C_sp_l10Good).find? fun p => Nat.beq p.1 2).elim .skip (·.2)
theorem l_sp_l10Good_2 : (DL_sp_l10Good_2).OK E_sp_l10Good tt Z_sp_l10Good (orcOf O_sp_l10Good) B_sp_l10Good_2 where
  ok := by kernel_rfl
  oke := by kernel_rfl
  okr := by kernel_rfl
  eta := fun _ => rfl
  step := fun _ _ => by kernel_rfl
noncomputable def B_sp_l10Good_0 : Code := ((loopsOf C_sp_l10Good).find? fun p => Nat.beq p.1 0).elim .skip (·.2)
theorem l_sp_l10Good_0 : (DL_sp_l10Good_0).OK E_sp_l10Good tt Z_sp_l10Good (orcOf O_sp_l10Good) B_sp_l10Good_0 where
  ok := by kernel_rfl
  oke := by kernel_rfl
  okr := by kernel_rfl
  eta := fun _ => rfl
  step := fun _ _ => by kernel_rfl
theorem o_sp_l10Good : LoopsOK E_sp_l10Good tt Z_sp_l10Good O_sp_l10Good C_sp_l10Good := by
  have h : loopsOf C_sp_l10Good = [(0, B_sp_l10Good_0), (2, B_sp_l10Good_2)] := by kernel_rfl
  unfold LoopsOK
  rw [h]
  exact List.forall_mem_cons.2 ⟨fun d h => (by have e : some (DL_sp_l10Good_0) = some d := h; cases e; exact l_sp_l10Good_0), List.forall_mem_cons.2 ⟨fun d h => (by have e : some (DL_sp_l10Good_2) = some d := h; cases e; exact l_sp_l10Good_2), fun _ h => absurd h List.not_mem_nil⟩⟩
theorem ok_sp_l10Good : FnOK prog E_sp_l10Good tt 66 D_sp_l10Good K_sp_l10Good Z_sp_l10Good O_sp_l10Good f66 C_sp_l10Good (fun x => T_sp_l10Good x.1.1.1 x.1.1.2.1 x.1.1.2.2.1 x.1.1.2.2.2.1) (fun r => ((r, ()), ())) where
  at_ := func66
  name := by kernel_rfl
  body := by kernel_rfl
  res := by kernel_rfl
  ok := by kernel_rfl
  arity := fun _ => Nat.le_of_ble_eq_true (by kernel_rfl)
  pin := fun _ => by kernel_rfl
  chk := by kernel_rfl
  loops := o_sp_l10Good
  run := e_sp_l10Good
  F := fun _ => rfl
  emb := fun _ => rfl
theorem fd_sp_l10Good : FDok prog (66, D_sp_l10Good) := fn_ok mixed (env_ok (List.forall_mem_cons.2 ⟨fd_sp_l2Row, List.forall_mem_cons.2 ⟨fd_sp_l1In, fun _ h => absurd h List.not_mem_nil⟩⟩)) tabOK ok_sp_l10Good
theorem e_sp_l2Bits : ∀ x : D_sp_l2Bits.T, ((acode E_sp_l2Bits tt Z_sp_l2Bits (orcOf O_sp_l2Bits) C_sp_l2Bits (entry A_sp_l2Bits I_sp_l2Bits x)).map (keepRet tt K_sp_l2Bits)).ev = ((T_sp_l2Bits x.1.1 x.1.2.1).map fun r => some (((((), ()), (r, ()))) : K_sp_l2Bits.T)).ev := fun _ => by kernel_rfl
noncomputable def B_sp_l2Bits_0 : Code := ((loopsOf C_sp_l2Bits).find? fun p => Nat.beq p.1 0).elim .skip (·.2)
theorem l_sp_l2Bits_0 : (DL_sp_l2Bits_0).OK E_sp_l2Bits tt Z_sp_l2Bits (orcOf O_sp_l2Bits) B_sp_l2Bits_0 where
  ok := by kernel_rfl
  oke := by kernel_rfl
  okr := by kernel_rfl
  eta := fun _ => rfl
  step := fun _ _ => by kernel_rfl
theorem o_sp_l2Bits : LoopsOK E_sp_l2Bits tt Z_sp_l2Bits O_sp_l2Bits C_sp_l2Bits := by
  have h : loopsOf C_sp_l2Bits = [(0, B_sp_l2Bits_0)] := by kernel_rfl
  unfold LoopsOK
  rw [h]
  exact List.forall_mem_cons.2 ⟨fun d h => (by have e : some (DL_sp_l2Bits_0) = some d := h; cases e; exact l_sp_l2Bits_0), fun _ h => absurd h List.not_mem_nil⟩
theorem ok_sp_l2Bits : FnOK prog E_sp_l2Bits tt 161 D_sp_l2Bits K_sp_l2Bits Z_sp_l2Bits O_sp_l2Bits f161 C_sp_l2Bits (fun x => T_sp_l2Bits x.1.1 x.1.2.1) (fun r => (((), ()), (r, ()))) where
  at_ := func161
  name := by kernel_rfl
  body := by kernel_rfl
  res := by kernel_rfl
  ok := by kernel_rfl
  arity := fun _ => Nat.le_of_ble_eq_true (by kernel_rfl)
  pin := fun _ => by kernel_rfl
  chk := by kernel_rfl
  loops := o_sp_l2Bits
  run := e_sp_l2Bits
  F := fun _ => rfl
  emb := fun _ => rfl
theorem fd_sp_l2Bits : FDok prog (161, D_sp_l2Bits) := fn_ok mixed (env_ok (fun _ h => absurd h List.not_mem_nil)) tabOK ok_sp_l2Bits
theorem e_sp_l2Before : ∀ x : D_sp_l2Before.T, ((acode E_sp_l2Before tt Z_sp_l2Before (orcOf O_sp_l2Before) C_sp_l2Before (entry A_sp_l2Before I_sp_l2Before x)).map (keepRet tt K_sp_l2Before)).ev = ((T_sp_l2Before x.1.1 x.1.2.1).map fun r => some ((((r, ()), ())) : K_sp_l2Before.T)).ev := fun _ => by kernel_rfl
noncomputable def B_sp_l2Before_0 : Code := ((loopsOf C_sp_l2Before).find? fun p => Nat.beq p.1 0).elim .skip (·.2)
theorem l_sp_l2Before_0 : (DL_sp_l2Before_0).OK E_sp_l2Before tt Z_sp_l2Before (orcOf O_sp_l2Before) B_sp_l2Before_0 where
  ok := by kernel_rfl
  oke := by kernel_rfl
  okr := by kernel_rfl
  eta := fun _ => rfl
  step := fun _ _ => by kernel_rfl
theorem o_sp_l2Before : LoopsOK E_sp_l2Before tt Z_sp_l2Before O_sp_l2Before C_sp_l2Before := by
  have h : loopsOf C_sp_l2Before = [(0, B_sp_l2Before_0)] := by kernel_rfl
  unfold LoopsOK
  rw [h]
  exact List.forall_mem_cons.2 ⟨fun d h => (by have e : some (DL_sp_l2Before_0) = some d := h; cases e; exact l_sp_l2Before_0), fun _ h => absurd h List.not_mem_nil⟩
theorem ok_sp_l2Before : FnOK prog E_sp_l2Before tt 162 D_sp_l2Before K_sp_l2Before Z_sp_l2Before O_sp_l2Before f162 C_sp_l2Before (fun x => T_sp_l2Before x.1.1 x.1.2.1) (fun r => ((r, ()), ())) where
  at_ := func162
  name := by kernel_rfl
  body := by kernel_rfl
  res := by kernel_rfl
  ok := by kernel_rfl
  arity := fun _ => Nat.le_of_ble_eq_true (by kernel_rfl)
  pin := fun _ => by kernel_rfl
  chk := by kernel_rfl
  loops := o_sp_l2Before
  run := e_sp_l2Before
  F := fun _ => rfl
  emb := fun _ => rfl
theorem fd_sp_l2Before : FDok prog (162, D_sp_l2Before) := fn_ok mixed (env_ok (fun _ h => absurd h List.not_mem_nil)) tabOK ok_sp_l2Before
theorem e_sp_l2Sets : ∀ x : D_sp_l2Sets.T, ((acode E_sp_l2Sets tt Z_sp_l2Sets (orcOf O_sp_l2Sets) C_sp_l2Sets (entry A_sp_l2Sets I_sp_l2Sets x)).map (keepRet tt K_sp_l2Sets)).ev = ((T_sp_l2Sets x.1.1).map fun r => some ((((r, ()), ())) : K_sp_l2Sets.T)).ev := fun _ => by kernel_rfl
noncomputable def B_sp_l2Sets_2 : Code := ((loopsOf C_sp_l2Sets).find? fun p => Nat.beq p.1 2).elim .skip (·.2)
theorem l_sp_l2Sets_2 : (DL_sp_l2Sets_2).OK E_sp_l2Sets tt Z_sp_l2Sets (orcOf O_sp_l2Sets) B_sp_l2Sets_2 where
  ok := by kernel_rfl
  oke := by kernel_rfl
  okr := by kernel_rfl
  eta := fun _ => rfl
  step := fun _ _ => by kernel_rfl
noncomputable def B_sp_l2Sets_0 : Code := ((loopsOf C_sp_l2Sets).find? fun p => Nat.beq p.1 0).elim .skip (·.2)
theorem l_sp_l2Sets_0 : (DL_sp_l2Sets_0).OK E_sp_l2Sets tt Z_sp_l2Sets (orcOf O_sp_l2Sets) B_sp_l2Sets_0 where
  ok := by kernel_rfl
  oke := by kernel_rfl
  okr := by kernel_rfl
  eta := fun _ => rfl
  step := fun _ _ => by kernel_rfl
theorem o_sp_l2Sets : LoopsOK E_sp_l2Sets tt Z_sp_l2Sets O_sp_l2Sets C_sp_l2Sets := by
  have h : loopsOf C_sp_l2Sets = [(0, B_sp_l2Sets_0), (2, B_sp_l2Sets_2)] := by kernel_rfl
  unfold LoopsOK
  rw [h]
  exact List.forall_mem_cons.2 ⟨fun d h => (by have e : some (DL_sp_l2Sets_0) = some d := h; cases e; exact l_sp_l2Sets_0), List.forall_mem_cons.2 ⟨fun d h => (by have e : some (DL_sp_l2Sets_2) = some d := h; cases e; exact l_sp_l2Sets_2), fun _ h => absurd h List.not_mem_nil⟩⟩
theorem ok_sp_l2Sets : FnOK prog E_sp_l2Sets tt 114 D_sp_l2Sets K_sp_l2Sets Z_sp_l2Sets O_sp_l2Sets f114 C_sp_l2Sets (fun x => T_sp_l2Sets x.1.1) (fun r => ((r, ()), ())) where
  at_ := func114
  name := by kernel_rfl
  body := by kernel_rfl
  res := by kernel_rfl
  ok := by kernel_rfl
  arity := fun _ => Nat.le_of_ble_eq_true (by kernel_rfl)
  pin := fun _ => by kernel_rfl
  chk := by kernel_rfl
  loops := o_sp_l2Sets
  run := e_sp_l2Sets
  F := fun _ => rfl
  emb := fun _ => rfl
theorem fd_sp_l2Sets : FDok prog (114, D_sp_l2Sets) := fn_ok mixed (env_ok (List.forall_mem_cons.2 ⟨fd_sp_l2Bits, List.forall_mem_cons.2 ⟨fd_sp_l2Before, fun _ h => absurd h List.not_mem_nil⟩⟩)) tabOK ok_sp_l2Sets
theorem e_sp_l10Sets : ∀ x : D_sp_l10Sets.T, ((acode E_sp_l10Sets tt Z_sp_l10Sets (orcOf O_sp_l10Sets) C_sp_l10Sets (entry A_sp_l10Sets I_sp_l10Sets x)).map (keepRet tt K_sp_l10Sets)).ev = ((T_sp_l10Sets x.1.1.1 x.1.1.2.1 x.1.1.2.2.1 x.1.1.2.2.2.1).map fun r => some (((((), ()), (r, ()))) : K_sp_l10Sets.T)).ev := fun _ => by kernel_rfl
theorem o_sp_l10Sets : LoopsOK E_sp_l10Sets tt Z_sp_l10Sets O_sp_l10Sets C_sp_l10Sets := by
  have h : loopsOf C_sp_l10Sets = [] := by kernel_rfl
  unfold LoopsOK
  rw [h]
  exact fun _ h => absurd h List.not_mem_nil
theorem ok_sp_l10Sets : FnOK prog E_sp_l10Sets tt 79 D_sp_l10Sets K_sp_l10Sets Z_sp_l10Sets O_sp_l10Sets f79 C_sp_l10Sets (fun x => T_sp_l10Sets x.1.1.1 x.1.1.2.1 x.1.1.2.2.1 x.1.1.2.2.2.1) (fun r => (((), ()), (r, ()))) where
  at_ := func79
  name := by kernel_rfl
  body := by kernel_rfl
  res := by kernel_rfl
  ok := by kernel_rfl
  arity := fun _ => Nat.le_of_ble_eq_true (by kernel_rfl)
  pin := fun _ => by kernel_rfl
  chk := by kernel_rfl
  loops := o_sp_l10Sets
  run := e_sp_l10Sets
  F := fun _ => rfl
  emb := fun _ => rfl
theorem fd_sp_l10Sets : FDok prog (79, D_sp_l10Sets) := fn_ok mixed (env_ok (List.forall_mem_cons.2 ⟨fd_sp_l2Sets, fun _ h => absurd h List.not_mem_nil⟩)) tabOK ok_sp_l10Sets
theorem e_sp_l1Own : ∀ x : D_sp_l1Own.T, ((acode E_sp_l1Own tt Z_sp_l1Own (orcOf O_sp_l1Own) C_sp_l1Own (entry A_sp_l1Own I_sp_l1Own x)).map (keepRet tt K_sp_l1Own)).ev = ((T_sp_l1Own x.1.1).map fun r => some (((((), ()), (r, ()))) : K_sp_l1Own.T)).ev := fun _ => by kernel_rfl
theorem o_sp_l1Own : LoopsOK E_sp_l1Own tt Z_sp_l1Own O_sp_l1Own C_sp_l1Own := by
  have h : loopsOf C_sp_l1Own = [] := by kernel_rfl
  unfold LoopsOK
  rw [h]
  exact fun _ h => absurd h List.not_mem_nil
theorem ok_sp_l1Own : FnOK prog E_sp_l1Own tt 82 D_sp_l1Own K_sp_l1Own Z_sp_l1Own O_sp_l1Own f82 C_sp_l1Own (fun x => T_sp_l1Own x.1.1) (fun r => (((), ()), (r, ()))) where
  at_ := func82
  name := by kernel_rfl
  body := by kernel_rfl
  res := by kernel_rfl
  ok := by kernel_rfl
  arity := fun _ => Nat.le_of_ble_eq_true (by kernel_rfl)
  pin := fun _ => by kernel_rfl
  chk := by kernel_rfl
  loops := o_sp_l1Own
  run := e_sp_l1Own
  F := fun _ => rfl
  emb := fun _ => rfl
theorem fd_sp_l1Own : FDok prog (82, D_sp_l1Own) := fn_ok mixed (env_ok (fun _ h => absurd h List.not_mem_nil)) tabOK ok_sp_l1Own
theorem e_sp_l10Same : ∀ x : D_sp_l10Same.T, ((acode E_sp_l10Same tt Z_sp_l10Same (orcOf O_sp_l10Same) C_sp_l10Same (entry A_sp_l10Same I_sp_l10Same x)).map (keepRet tt K_sp_l10Same)).ev = ((T_sp_l10Same x.1.1.1 x.1.1.2.1 x.1.1.2.2.1 x.1.1.2.2.2.1 x.1.2.1).map fun r => some (((((), ()), (r, ()))) : K_sp_l10Same.T)).ev := fun _ => by kernel_rfl
noncomputable def B_sp_l10Same_0 : Code := ((loopsOf C_sp_l10Same).find? fun p => Nat.beq p.1 0).elim .skip (·.2)
theorem l_sp_l10Same_0 : (DL_sp_l10Same_0).OK E_sp_l10Same tt Z_sp_l10Same (orcOf O_sp_l10Same) B_sp_l10Same_0 where
  ok := by kernel_rfl
  oke := by kernel_rfl
  okr := by kernel_rfl
  eta := fun _ => rfl
  step := fun _ _ => by kernel_rfl
theorem o_sp_l10Same : LoopsOK E_sp_l10Same tt Z_sp_l10Same O_sp_l10Same C_sp_l10Same := by
  have h : loopsOf C_sp_l10Same = [(0, B_sp_l10Same_0)] := by kernel_rfl
  unfold LoopsOK
  rw [h]
  exact List.forall_mem_cons.2 ⟨fun d h => (by have e : some (DL_sp_l10Same_0) = some d := h; cases e; exact l_sp_l10Same_0), fun _ h => absurd h List.not_mem_nil⟩
theorem ok_sp_l10Same : FnOK prog E_sp_l10Same tt 92 D_sp_l10Same K_sp_l10Same Z_sp_l10Same O_sp_l10Same f92 C_sp_l10Same (fun x => T_sp_l10Same x.1.1.1 x.1.1.2.1 x.1.1.2.2.1 x.1.1.2.2.2.1 x.1.2.1) (fun r => (((), ()), (r, ()))) where
  at_ := func92
  name := by kernel_rfl
  body := by kernel_rfl
  res := by kernel_rfl
  ok := by kernel_rfl
  arity := fun _ => Nat.le_of_ble_eq_true (by kernel_rfl)
  pin := fun _ => by kernel_rfl
  chk := by kernel_rfl
  loops := o_sp_l10Same
  run := e_sp_l10Same
  F := fun _ => rfl
  emb := fun _ => rfl
theorem fd_sp_l10Same : FDok prog (92, D_sp_l10Same) := fn_ok mixed (env_ok (List.forall_mem_cons.2 ⟨fd_sp_l1Own, fun _ h => absurd h List.not_mem_nil⟩)) tabOK ok_sp_l10Same
theorem e_sp_l1Rising : ∀ x : D_sp_l1Rising.T, ((acode E_sp_l1Rising tt Z_sp_l1Rising (orcOf O_sp_l1Rising) C_sp_l1Rising (entry A_sp_l1Rising I_sp_l1Rising x)).map (keepRet tt K_sp_l1Rising)).ev = ((T_sp_l1Rising x.1.1 x.1.2.1 x.1.2.2.1).map fun r => some ((((r, ()), ())) : K_sp_l1Rising.T)).ev := fun _ => by kernel_rfl
noncomputable def B_sp_l1Rising_0 : Code := ((loopsOf C_sp_l1Rising).find? fun p => Nat.beq p.1 0).elim .skip (·.2)
theorem l_sp_l1Rising_0 : (DL_sp_l1Rising_0).OK E_sp_l1Rising tt Z_sp_l1Rising (orcOf O_sp_l1Rising) B_sp_l1Rising_0 where
  ok := by kernel_rfl
  oke := by kernel_rfl
  okr := by kernel_rfl
  eta := fun _ => rfl
  step := fun _ _ => by kernel_rfl
theorem o_sp_l1Rising : LoopsOK E_sp_l1Rising tt Z_sp_l1Rising O_sp_l1Rising C_sp_l1Rising := by
  have h : loopsOf C_sp_l1Rising = [(0, B_sp_l1Rising_0)] := by kernel_rfl
  unfold LoopsOK
  rw [h]
  exact List.forall_mem_cons.2 ⟨fun d h => (by have e : some (DL_sp_l1Rising_0) = some d := h; cases e; exact l_sp_l1Rising_0), fun _ h => absurd h List.not_mem_nil⟩
theorem ok_sp_l1Rising : FnOK prog E_sp_l1Rising tt 148 D_sp_l1Rising K_sp_l1Rising Z_sp_l1Rising O_sp_l1Rising f148 C_sp_l1Rising (fun x => T_sp_l1Rising x.1.1 x.1.2.1 x.1.2.2.1) (fun r => ((r, ()), ())) where
  at_ := func148
  name := by kernel_rfl
  body := by kernel_rfl
  res := by kernel_rfl
  ok := by kernel_rfl
  arity := fun _ => Nat.le_of_ble_eq_true (by kernel_rfl)
  pin := fun _ => by kernel_rfl
  chk := by kernel_rfl
  loops := o_sp_l1Rising
  run := e_sp_l1Rising
  F := fun _ => rfl
  emb := fun _ => rfl
theorem fd_sp_l1Rising : FDok prog (148, D_sp_l1Rising) := fn_ok mixed (env_ok (List.forall_mem_cons.2 ⟨fd_sp_l1In, fun _ h => absurd h List.not_mem_nil⟩)) tabOK ok_sp_l1Rising
theorem e_sp_l10May : ∀ x : D_sp_l10May.T, ((acode E_sp_l10May tt Z_sp_l10May (orcOf O_sp_l10May) C_sp_l10May (entry A_sp_l10May I_sp_l10May x)).map (keepRet tt K_sp_l10May)).ev = ((T_sp_l10May x.1.1.1 x.1.1.2.1 x.1.1.2.2.1 x.1.1.2.2.2.1 x.1.2.1 x.1.2.2.1).map fun r => some ((((r, ()), ())) : K_sp_l10May.T)).ev := fun _ => by kernel_rfl
theorem o_sp_l10May : LoopsOK E_sp_l10May tt Z_sp_l10May O_sp_l10May C_sp_l10May := by
  have h : loopsOf C_sp_l10May = [] := by kernel_rfl
  unfold LoopsOK
  rw [h]
  exact fun _ h => absurd h List.not_mem_nil
theorem ok_sp_l10May : FnOK prog E_sp_l10May tt 80 D_sp_l10May K_sp_l10May Z_sp_l10May O_sp_l10May f80 C_sp_l10May (fun x => T_sp_l10May x.1.1.1 x.1.1.2.1 x.1.1.2.2.1 x.1.1.2.2.2.1 x.1.2.1 x.1.2.2.1) (fun r => ((r, ()), ())) where
  at_ := func80
  name := by kernel_rfl
  body := by kernel_rfl
  res := by kernel_rfl
  ok := by kernel_rfl
  arity := fun _ => Nat.le_of_ble_eq_true (by kernel_rfl)
  pin := fun _ => by kernel_rfl
  chk := by kernel_rfl
  loops := o_sp_l10May
  run := e_sp_l10May
  F := fun _ => rfl
  emb := fun _ => rfl
theorem fd_sp_l10May : FDok prog (80, D_sp_l10May) := fn_ok mixed (env_ok (List.forall_mem_cons.2 ⟨fd_sp_l1Rising, fun _ h => absurd h List.not_mem_nil⟩)) tabOK ok_sp_l10May
theorem e_sp_l10Plan : ∀ x : D_sp_l10Plan.T, ((acode E_sp_l10Plan tt Z_sp_l10Plan (orcOf O_sp_l10Plan) C_sp_l10Plan (entry A_sp_l10Plan I_sp_l10Plan x)).map (keepRet tt K_sp_l10Plan)).ev = ((T_sp_l10Plan x.1.1.1 x.1.1.2.1 x.1.1.2.2.1 x.1.1.2.2.2.1 x.1.2.1).map fun r => some ((((r, ()), ())) : K_sp_l10Plan.T)).ev := fun _ => by kernel_rfl
noncomputable def B_sp_l10Plan_0 : Code := ((loopsOf C_sp_l10Plan).find? fun p => Nat.beq p.1 0).elim .skip (·.2)
theorem l_sp_l10Plan_0 : (DL_sp_l10Plan_0).OK E_sp_l10Plan tt Z_sp_l10Plan (orcOf O_sp_l10Plan) B_sp_l10Plan_0 where
  ok := by kernel_rfl
  oke := by kernel_rfl
  okr := by kernel_rfl
  eta := fun _ => rfl
  step := fun _ _ => by kernel_rfl
theorem o_sp_l10Plan : LoopsOK E_sp_l10Plan tt Z_sp_l10Plan O_sp_l10Plan C_sp_l10Plan := by
  have h : loopsOf C_sp_l10Plan = [(0, B_sp_l10Plan_0)] := by kernel_rfl
  unfold LoopsOK
  rw [h]
  exact List.forall_mem_cons.2 ⟨fun d h => (by have e : some (DL_sp_l10Plan_0) = some d := h; cases e; exact l_sp_l10Plan_0), fun _ h => absurd h List.not_mem_nil⟩
theorem ok_sp_l10Plan : FnOK prog E_sp_l10Plan tt 75 D_sp_l10Plan K_sp_l10Plan Z_sp_l10Plan O_sp_l10Plan f75 C_sp_l10Plan (fun x => T_sp_l10Plan x.1.1.1 x.1.1.2.1 x.1.1.2.2.1 x.1.1.2.2.2.1 x.1.2.1) (fun r => ((r, ()), ())) where
  at_ := func75
  name := by kernel_rfl
  body := by kernel_rfl
  res := by kernel_rfl
  ok := by kernel_rfl
  arity := fun _ => Nat.le_of_ble_eq_true (by kernel_rfl)
  pin := fun _ => by kernel_rfl
  chk := by kernel_rfl
  loops := o_sp_l10Plan
  run := e_sp_l10Plan
  F := fun _ => rfl
  emb := fun _ => rfl
theorem fd_sp_l10Plan : FDok prog (75, D_sp_l10Plan) := fn_ok mixed (env_ok (List.forall_mem_cons.2 ⟨fd_sp_l10May, fun _ h => absurd h List.not_mem_nil⟩)) tabOK ok_sp_l10Plan
theorem e_sp_l2Site : ∀ x : D_sp_l2Site.T, ((acode E_sp_l2Site tt Z_sp_l2Site (orcOf O_sp_l2Site) C_sp_l2Site (entry A_sp_l2Site I_sp_l2Site x)).map (keepRet tt K_sp_l2Site)).ev = ((T_sp_l2Site x.1.1.1 x.1.1.2.1 x.1.2.1 x.1.2.2.1).map fun r => some ((((r, ()), ())) : K_sp_l2Site.T)).ev := fun _ => by kernel_rfl
noncomputable def B_sp_l2Site_0 : Code := ((loopsOf C_sp_l2Site).find? fun p => Nat.beq p.1 0).elim .skip (·.2)
theorem l_sp_l2Site_0 : (DL_sp_l2Site_0).OK E_sp_l2Site tt Z_sp_l2Site (orcOf O_sp_l2Site) B_sp_l2Site_0 where
  ok := by kernel_rfl
  oke := by kernel_rfl
  okr := by kernel_rfl
  eta := fun _ => rfl
  step := fun _ _ => by kernel_rfl
theorem o_sp_l2Site : LoopsOK E_sp_l2Site tt Z_sp_l2Site O_sp_l2Site C_sp_l2Site := by
  have h : loopsOf C_sp_l2Site = [(0, B_sp_l2Site_0)] := by kernel_rfl
  unfold LoopsOK
  rw [h]
  exact List.forall_mem_cons.2 ⟨fun d h => (by have e : some (DL_sp_l2Site_0) = some d := h; cases e; exact l_sp_l2Site_0), fun _ h => absurd h List.not_mem_nil⟩
theorem ok_sp_l2Site : FnOK prog E_sp_l2Site tt 129 D_sp_l2Site K_sp_l2Site Z_sp_l2Site O_sp_l2Site f129 C_sp_l2Site (fun x => T_sp_l2Site x.1.1.1 x.1.1.2.1 x.1.2.1 x.1.2.2.1) (fun r => ((r, ()), ())) where
  at_ := func129
  name := by kernel_rfl
  body := by kernel_rfl
  res := by kernel_rfl
  ok := by kernel_rfl
  arity := fun _ => Nat.le_of_ble_eq_true (by kernel_rfl)
  pin := fun _ => by kernel_rfl
  chk := by kernel_rfl
  loops := o_sp_l2Site
  run := e_sp_l2Site
  F := fun _ => rfl
  emb := fun _ => rfl
theorem fd_sp_l2Site : FDok prog (129, D_sp_l2Site) := fn_ok mixed (env_ok (fun _ h => absurd h List.not_mem_nil)) tabOK ok_sp_l2Site
theorem e_sp_l2Nearest : ∀ x : D_sp_l2Nearest.T, ((acode E_sp_l2Nearest tt Z_sp_l2Nearest (orcOf O_sp_l2Nearest) C_sp_l2Nearest (entry A_sp_l2Nearest I_sp_l2Nearest x)).map (keepRet tt K_sp_l2Nearest)).ev = ((T_sp_l2Nearest x.1.1.1 x.1.1.2.1 x.1.2.1 x.1.2.2.1).map fun r => some ((((r, ()), ())) : K_sp_l2Nearest.T)).ev := fun _ => by kernel_rfl
theorem o_sp_l2Nearest : LoopsOK E_sp_l2Nearest tt Z_sp_l2Nearest O_sp_l2Nearest C_sp_l2Nearest := by
  have h : loopsOf C_sp_l2Nearest = [] := by kernel_rfl
  unfold LoopsOK
  rw [h]
  exact fun _ h => absurd h List.not_mem_nil
theorem ok_sp_l2Nearest : FnOK prog E_sp_l2Nearest tt 153 D_sp_l2Nearest K_sp_l2Nearest Z_sp_l2Nearest O_sp_l2Nearest f153 C_sp_l2Nearest (fun x => T_sp_l2Nearest x.1.1.1 x.1.1.2.1 x.1.2.1 x.1.2.2.1) (fun r => ((r, ()), ())) where
  at_ := func153
  name := by kernel_rfl
  body := by kernel_rfl
  res := by kernel_rfl
  ok := by kernel_rfl
  arity := fun _ => Nat.le_of_ble_eq_true (by kernel_rfl)
  pin := fun _ => by kernel_rfl
  chk := by kernel_rfl
  loops := o_sp_l2Nearest
  run := e_sp_l2Nearest
  F := fun _ => rfl
  emb := fun _ => rfl
theorem fd_sp_l2Nearest : FDok prog (153, D_sp_l2Nearest) := fn_ok mixed (env_ok (List.forall_mem_cons.2 ⟨fd_sp_l2Site, fun _ h => absurd h List.not_mem_nil⟩)) tabOK ok_sp_l2Nearest
theorem e_sp_l2Serve : ∀ x : D_sp_l2Serve.T, ((acode E_sp_l2Serve tt Z_sp_l2Serve (orcOf O_sp_l2Serve) C_sp_l2Serve (entry A_sp_l2Serve I_sp_l2Serve x)).map (keepRet tt K_sp_l2Serve)).ev = ((T_sp_l2Serve x.1.1.1 x.1.1.2.1 x.1.2.1).map fun r => some ((((r, ()), ())) : K_sp_l2Serve.T)).ev := fun _ => by kernel_rfl
noncomputable def B_sp_l2Serve_0 : Code := ((loopsOf C_sp_l2Serve).find? fun p => Nat.beq p.1 0).elim .skip (·.2)
theorem l_sp_l2Serve_0 : (DL_sp_l2Serve_0).OK E_sp_l2Serve tt Z_sp_l2Serve (orcOf O_sp_l2Serve) B_sp_l2Serve_0 where
  ok := by kernel_rfl
  oke := by kernel_rfl
  okr := by kernel_rfl
  eta := fun _ => rfl
  step := fun _ _ => by kernel_rfl
theorem o_sp_l2Serve : LoopsOK E_sp_l2Serve tt Z_sp_l2Serve O_sp_l2Serve C_sp_l2Serve := by
  have h : loopsOf C_sp_l2Serve = [(0, B_sp_l2Serve_0)] := by kernel_rfl
  unfold LoopsOK
  rw [h]
  exact List.forall_mem_cons.2 ⟨fun d h => (by have e : some (DL_sp_l2Serve_0) = some d := h; cases e; exact l_sp_l2Serve_0), fun _ h => absurd h List.not_mem_nil⟩
theorem ok_sp_l2Serve : FnOK prog E_sp_l2Serve tt 103 D_sp_l2Serve K_sp_l2Serve Z_sp_l2Serve O_sp_l2Serve f103 C_sp_l2Serve (fun x => T_sp_l2Serve x.1.1.1 x.1.1.2.1 x.1.2.1) (fun r => ((r, ()), ())) where
  at_ := func103
  name := by kernel_rfl
  body := by kernel_rfl
  res := by kernel_rfl
  ok := by kernel_rfl
  arity := fun _ => Nat.le_of_ble_eq_true (by kernel_rfl)
  pin := fun _ => by kernel_rfl
  chk := by kernel_rfl
  loops := o_sp_l2Serve
  run := e_sp_l2Serve
  F := fun _ => rfl
  emb := fun _ => rfl
theorem fd_sp_l2Serve : FDok prog (103, D_sp_l2Serve) := fn_ok mixed (env_ok (List.forall_mem_cons.2 ⟨fd_sp_l2Nearest, fun _ h => absurd h List.not_mem_nil⟩)) tabOK ok_sp_l2Serve
theorem e_sp_l1Has : ∀ x : D_sp_l1Has.T, ((acode E_sp_l1Has tt Z_sp_l1Has (orcOf O_sp_l1Has) C_sp_l1Has (entry A_sp_l1Has I_sp_l1Has x)).map (keepRet tt K_sp_l1Has)).ev = ((T_sp_l1Has x.1.1 x.1.2.1).map fun r => some ((((r, ()), ())) : K_sp_l1Has.T)).ev := fun _ => by kernel_rfl
noncomputable def B_sp_l1Has_0 : Code := ((loopsOf C_sp_l1Has).find? fun p => Nat.beq p.1 0).elim .skip (·.2)
theorem l_sp_l1Has_0 : (DL_sp_l1Has_0).OK E_sp_l1Has tt Z_sp_l1Has (orcOf O_sp_l1Has) B_sp_l1Has_0 where
  ok := by kernel_rfl
  oke := by kernel_rfl
  okr := by kernel_rfl
  eta := fun _ => rfl
  step := fun _ _ => by kernel_rfl
theorem o_sp_l1Has : LoopsOK E_sp_l1Has tt Z_sp_l1Has O_sp_l1Has C_sp_l1Has := by
  have h : loopsOf C_sp_l1Has = [(0, B_sp_l1Has_0)] := by kernel_rfl
  unfold LoopsOK
  rw [h]
  exact List.forall_mem_cons.2 ⟨fun d h => (by have e : some (DL_sp_l1Has_0) = some d := h; cases e; exact l_sp_l1Has_0), fun _ h => absurd h List.not_mem_nil⟩
theorem ok_sp_l1Has : FnOK prog E_sp_l1Has tt 149 D_sp_l1Has K_sp_l1Has Z_sp_l1Has O_sp_l1Has f149 C_sp_l1Has (fun x => T_sp_l1Has x.1.1 x.1.2.1) (fun r => ((r, ()), ())) where
  at_ := func149
  name := by kernel_rfl
  body := by kernel_rfl
  res := by kernel_rfl
  ok := by kernel_rfl
  arity := fun _ => Nat.le_of_ble_eq_true (by kernel_rfl)
  pin := fun _ => by kernel_rfl
  chk := by kernel_rfl
  loops := o_sp_l1Has
  run := e_sp_l1Has
  F := fun _ => rfl
  emb := fun _ => rfl
theorem fd_sp_l1Has : FDok prog (149, D_sp_l1Has) := fn_ok mixed (env_ok (fun _ h => absurd h List.not_mem_nil)) tabOK ok_sp_l1Has
theorem e_sp_l10Move : ∀ x : D_sp_l10Move.T, ((acode E_sp_l10Move tt Z_sp_l10Move (orcOf O_sp_l10Move) C_sp_l10Move (entry A_sp_l10Move I_sp_l10Move x)).map (keepRet tt K_sp_l10Move)).ev = ((T_sp_l10Move x.1.1.1 x.1.1.2.1 x.1.1.2.2.1 x.1.1.2.2.2.1 x.1.2.1 x.1.2.2.1 x.1.2.2.2.1).map fun r => some ((((r, ()), ())) : K_sp_l10Move.T)).ev := fun _ => by kernel_rfl
noncomputable def B_sp_l10Move_0 : Code := ((loopsOf C_sp_l10Move).find? fun p => Nat.beq p.1 0).elim .skip (·.2)
theorem l_sp_l10Move_0 : (DL_sp_l10Move_0).OK E_sp_l10Move tt Z_sp_l10Move (orcOf O_sp_l10Move) B_sp_l10Move_0 where
  ok := by kernel_rfl
  oke := by kernel_rfl
  okr := by kernel_rfl
  eta := fun _ => rfl
  step := fun _ _ => by kernel_rfl
theorem o_sp_l10Move : LoopsOK E_sp_l10Move tt Z_sp_l10Move O_sp_l10Move C_sp_l10Move := by
  have h : loopsOf C_sp_l10Move = [(0, B_sp_l10Move_0)] := by kernel_rfl
  unfold LoopsOK
  rw [h]
  exact List.forall_mem_cons.2 ⟨fun d h => (by have e : some (DL_sp_l10Move_0) = some d := h; cases e; exact l_sp_l10Move_0), fun _ h => absurd h List.not_mem_nil⟩
theorem ok_sp_l10Move : FnOK prog E_sp_l10Move tt 81 D_sp_l10Move K_sp_l10Move Z_sp_l10Move O_sp_l10Move f81 C_sp_l10Move (fun x => T_sp_l10Move x.1.1.1 x.1.1.2.1 x.1.1.2.2.1 x.1.1.2.2.2.1 x.1.2.1 x.1.2.2.1 x.1.2.2.2.1) (fun r => ((r, ()), ())) where
  at_ := func81
  name := by kernel_rfl
  body := by kernel_rfl
  res := by kernel_rfl
  ok := by kernel_rfl
  arity := fun _ => Nat.le_of_ble_eq_true (by kernel_rfl)
  pin := fun _ => by kernel_rfl
  chk := by kernel_rfl
  loops := o_sp_l10Move
  run := e_sp_l10Move
  F := fun _ => rfl
  emb := fun _ => rfl
theorem fd_sp_l10Move : FDok prog (81, D_sp_l10Move) := fn_ok mixed (env_ok (List.forall_mem_cons.2 ⟨fd_sp_l2Serve, List.forall_mem_cons.2 ⟨fd_sp_l1Has, fun _ h => absurd h List.not_mem_nil⟩⟩)) tabOK ok_sp_l10Move
theorem e_sp_l10Moves : ∀ x : D_sp_l10Moves.T, ((acode E_sp_l10Moves tt Z_sp_l10Moves (orcOf O_sp_l10Moves) C_sp_l10Moves (entry A_sp_l10Moves I_sp_l10Moves x)).map (keepRet tt K_sp_l10Moves)).ev = ((T_sp_l10Moves x.1.1.1 x.1.1.2.1 x.1.1.2.2.1 x.1.1.2.2.2.1 x.1.2.1).map fun r => some (((((), ()), (r, ()))) : K_sp_l10Moves.T)).ev := fun _ => by kernel_rfl
noncomputable def B_sp_l10Moves_0 : Code := ((loopsOf C_sp_l10Moves).find? fun p => Nat.beq p.1 0).elim .skip (·.2)
theorem l_sp_l10Moves_0 : (DL_sp_l10Moves_0).OK E_sp_l10Moves tt Z_sp_l10Moves (orcOf O_sp_l10Moves) B_sp_l10Moves_0 where
  ok := by kernel_rfl
  oke := by kernel_rfl
  okr := by kernel_rfl
  eta := fun _ => rfl
  step := fun _ _ => by kernel_rfl
theorem o_sp_l10Moves : LoopsOK E_sp_l10Moves tt Z_sp_l10Moves O_sp_l10Moves C_sp_l10Moves := by
  have h : loopsOf C_sp_l10Moves = [(0, B_sp_l10Moves_0)] := by kernel_rfl
  unfold LoopsOK
  rw [h]
  exact List.forall_mem_cons.2 ⟨fun d h => (by have e : some (DL_sp_l10Moves_0) = some d := h; cases e; exact l_sp_l10Moves_0), fun _ h => absurd h List.not_mem_nil⟩
theorem ok_sp_l10Moves : FnOK prog E_sp_l10Moves tt 77 D_sp_l10Moves K_sp_l10Moves Z_sp_l10Moves O_sp_l10Moves f77 C_sp_l10Moves (fun x => T_sp_l10Moves x.1.1.1 x.1.1.2.1 x.1.1.2.2.1 x.1.1.2.2.2.1 x.1.2.1) (fun r => (((), ()), (r, ()))) where
  at_ := func77
  name := by kernel_rfl
  body := by kernel_rfl
  res := by kernel_rfl
  ok := by kernel_rfl
  arity := fun _ => Nat.le_of_ble_eq_true (by kernel_rfl)
  pin := fun _ => by kernel_rfl
  chk := by kernel_rfl
  loops := o_sp_l10Moves
  run := e_sp_l10Moves
  F := fun _ => rfl
  emb := fun _ => rfl
theorem fd_sp_l10Moves : FDok prog (77, D_sp_l10Moves) := fn_ok mixed (env_ok (List.forall_mem_cons.2 ⟨fd_sp_l10Move, fun _ h => absurd h List.not_mem_nil⟩)) tabOK ok_sp_l10Moves
theorem e_sp_l10Sum : ∀ x : D_sp_l10Sum.T, ((acode E_sp_l10Sum tt Z_sp_l10Sum (orcOf O_sp_l10Sum) C_sp_l10Sum (entry A_sp_l10Sum I_sp_l10Sum x)).map (keepRet tt K_sp_l10Sum)).ev = ((T_sp_l10Sum x.1.1).map fun r => some ((((r, ()), ())) : K_sp_l10Sum.T)).ev := fun _ => by kernel_rfl
noncomputable def B_sp_l10Sum_0 : Code := ((loopsOf C_sp_l10Sum).find? fun p => Nat.beq p.1 0).elim .skip (·.2)
theorem l_sp_l10Sum_0 : (DL_sp_l10Sum_0).OK E_sp_l10Sum tt Z_sp_l10Sum (orcOf O_sp_l10Sum) B_sp_l10Sum_0 where
  ok := by kernel_rfl
  oke := by kernel_rfl
  okr := by kernel_rfl
  eta := fun _ => rfl
  step := fun _ _ => by kernel_rfl
theorem o_sp_l10Sum : LoopsOK E_sp_l10Sum tt Z_sp_l10Sum O_sp_l10Sum C_sp_l10Sum := by
  have h : loopsOf C_sp_l10Sum = [(0, B_sp_l10Sum_0)] := by kernel_rfl
  unfold LoopsOK
  rw [h]
  exact List.forall_mem_cons.2 ⟨fun d h => (by have e : some (DL_sp_l10Sum_0) = some d := h; cases e; exact l_sp_l10Sum_0), fun _ h => absurd h List.not_mem_nil⟩
theorem ok_sp_l10Sum : FnOK prog E_sp_l10Sum tt 76 D_sp_l10Sum K_sp_l10Sum Z_sp_l10Sum O_sp_l10Sum f76 C_sp_l10Sum (fun x => T_sp_l10Sum x.1.1) (fun r => ((r, ()), ())) where
  at_ := func76
  name := by kernel_rfl
  body := by kernel_rfl
  res := by kernel_rfl
  ok := by kernel_rfl
  arity := fun _ => Nat.le_of_ble_eq_true (by kernel_rfl)
  pin := fun _ => by kernel_rfl
  chk := by kernel_rfl
  loops := o_sp_l10Sum
  run := e_sp_l10Sum
  F := fun _ => rfl
  emb := fun _ => rfl
theorem fd_sp_l10Sum : FDok prog (76, D_sp_l10Sum) := fn_ok mixed (env_ok (fun _ h => absurd h List.not_mem_nil)) tabOK ok_sp_l10Sum
theorem e_sp_StaticPlan : ∀ x : D_sp_StaticPlan.T, ((acode E_sp_StaticPlan tt Z_sp_StaticPlan (orcOf O_sp_StaticPlan) C_sp_StaticPlan (entry A_sp_StaticPlan I_sp_StaticPlan x)).map (keepRet tt K_sp_StaticPlan)).ev = ((T_sp_StaticPlan x.1.1.1 x.1.1.2.1 x.1.1.2.2.1 x.1.1.2.2.2.1).map fun r => some ((((r.1, (r.2, ())), ())) : K_sp_StaticPlan.T)).ev := fun _ => by kernel_rfl
noncomputable def B_sp_StaticPlan_0 : Code := ((loopsOf C_sp_StaticPlan).find? fun p => Nat.beq p.1 0).elim .skip (·.2)
theorem l_sp_StaticPlan_0 : (DL_sp_StaticPlan_0).OK E_sp_StaticPlan tt Z_sp_StaticPlan (orcOf O_sp_StaticPlan) B_sp_StaticPlan_0 where
  ok := by kernel_rfl
  oke := by kernel_rfl
  okr := by kernel_rfl
  eta := fun _ => rfl
  step := fun _ _ => by kernel_rfl
theorem o_sp_StaticPlan : LoopsOK E_sp_StaticPlan tt Z_sp_StaticPlan O_sp_StaticPlan C_sp_StaticPlan := by
  have h : loopsOf C_sp_StaticPlan = [(0, B_sp_StaticPlan_0)] := by kernel_rfl
  unfold LoopsOK
  rw [h]
  exact List.forall_mem_cons.2 ⟨fun d h => (by have e : some (DL_sp_StaticPlan_0) = some d := h; cases e; exact l_sp_StaticPlan_0), fun _ h => absurd h List.not_mem_nil⟩
theorem ok_sp_StaticPlan : FnOK prog E_sp_StaticPlan tt 34 D_sp_StaticPlan K_sp_StaticPlan Z_sp_StaticPlan O_sp_StaticPlan f34 C_sp_StaticPlan (fun x => T_sp_StaticPlan x.1.1.1 x.1.1.2.1 x.1.1.2.2.1 x.1.1.2.2.2.1) (fun r => ((r.1, (r.2, ())), ())) where
  at_ := func34
  name := by kernel_rfl
  body := by kernel_rfl
  res := by kernel_rfl
  ok := by kernel_rfl
  arity := fun _ => Nat.le_of_ble_eq_true (by kernel_rfl)
  pin := fun _ => by kernel_rfl
  chk := by kernel_rfl
  loops := o_sp_StaticPlan
  run := e_sp_StaticPlan
  F := fun _ => rfl
  emb := fun _ => rfl
theorem fd_sp_StaticPlan : FDok prog (34, D_sp_StaticPlan) := fn_ok mixed (env_ok (List.forall_mem_cons.2 ⟨fd_sp_l10Good, List.forall_mem_cons.2 ⟨fd_sp_l10Sets, List.forall_mem_cons.2 ⟨fd_sp_l10Same, List.forall_mem_cons.2 ⟨fd_sp_l10Plan, List.forall_mem_cons.2 ⟨fd_sp_l10Moves, List.forall_mem_cons.2 ⟨fd_sp_l10Sum, fun _ h => absurd h List.not_mem_nil⟩⟩⟩⟩⟩⟩)) tabOK ok_sp_StaticPlan
theorem e_im_between : ∀ x : D_im_between.T, ((acode E_im_between tt Z_im_between (orcOf O_im_between) C_im_between (entry A_im_between I_im_between x)).map (keepRet tt K_im_between)).ev = ((T_im_between x.1.1 x.1.2.1 x.1.2.2.1).map fun r => some ((((r, ()), ())) : K_im_between.T)).ev := fun _ => by kernel_rfl
theorem o_im_between : LoopsOK E_im_between tt Z_im_between O_im_between C_im_between := by
  have h : loopsOf C_im_between = [] := by kernel_rfl
  unfold LoopsOK
  rw [h]
  exact fun _ h => absurd h List.not_mem_nil
theorem ok_im_between : FnOK prog E_im_between tt 136 D_im_between K_im_between Z_im_between O_im_between f136 C_im_between (fun x => T_im_between x.1.1 x.1.2.1 x.1.2.2.1) (fun r => ((r, ()), ())) where
  at_ := func136
  name := by kernel_rfl
  body := by kernel_rfl
  res := by kernel_rfl
  ok := by kernel_rfl
  arity := fun _ => Nat.le_of_ble_eq_true (by kernel_rfl)
  pin := fun _ => by kernel_rfl
  chk := by kernel_rfl
  loops := o_im_between
  run := e_im_between
  F := fun _ => rfl
  emb := fun _ => rfl
theorem fd_im_between : FDok prog (136, D_im_between) := fn_ok mixed (env_ok (fun _ h => absurd h List.not_mem_nil)) tabOK ok_im_between
theorem e_slices_Grow_Sint_int : ∀ x : D_slices_Grow_Sint_int.T, ((acode E_slices_Grow_Sint_int tt Z_slices_Grow_Sint_int (orcOf O_slices_Grow_Sint_int) C_slices_Grow_Sint_int (entry A_slices_Grow_Sint_int I_slices_Grow_Sint_int x)).map (keepRet tt K_slices_Grow_Sint_int)).ev = ((T_slices_Grow_Sint_int x.1.2.1).map fun r => some (((((), ()), (r, ()))) : K_slices_Grow_Sint_int.T)).ev := fun _ => by kernel_rfl
theorem o_slices_Grow_Sint_int : LoopsOK E_slices_Grow_Sint_int tt Z_slices_Grow_Sint_int O_slices_Grow_Sint_int C_slices_Grow_Sint_int := by
  have h : loopsOf C_slices_Grow_Sint_int = [] := by kernel_rfl
  unfold LoopsOK
  rw [h]
  exact fun _ h => absurd h List.not_mem_nil
theorem ok_slices_Grow_Sint_int : FnOK prog E_slices_Grow_Sint_int tt 179 D_slices_Grow_Sint_int K_slices_Grow_Sint_int Z_slices_Grow_Sint_int O_slices_Grow_Sint_int f179 C_slices_Grow_Sint_int (fun x => T_slices_Grow_Sint_int x.1.2.1) (fun r => (((), ()), (r, ()))) where
  at_ := func179
  name := by kernel_rfl
  body := by kernel_rfl
  res := by kernel_rfl
  ok := by kernel_rfl
  arity := fun _ => Nat.le_of_ble_eq_true (by kernel_rfl)
  pin := fun _ => by kernel_rfl
  chk := by kernel_rfl
  loops := o_slices_Grow_Sint_int
  run := e_slices_Grow_Sint_int
  F := fun _ => rfl
  emb := fun _ => rfl
theorem fd_slices_Grow_Sint_int : FDok prog (179, D_slices_Grow_Sint_int) := fn_ok mixed (env_ok (fun _ h => absurd h List.not_mem_nil)) tabOK ok_slices_Grow_Sint_int
theorem e_slices_Concat_Sint_int : ∀ x : D_slices_Concat_Sint_int.T, ((acode E_slices_Concat_Sint_int tt Z_slices_Concat_Sint_int (orcOf O_slices_Concat_Sint_int) C_slices_Concat_Sint_int (entry A_slices_Concat_Sint_int I_slices_Concat_Sint_int x)).map (keepRet tt K_slices_Concat_Sint_int)).ev = ((T_slices_Concat_Sint_int x.1.1).map fun r => some (((((), ()), (r, ()))) : K_slices_Concat_Sint_int.T)).ev := fun _ => by kernel_rfl
noncomputable def B_slices_Concat_Sint_int_0 : Code := ((loopsOf C_slices_Concat_Sint_int).find? fun p => Nat.beq p.1 0).elim .skip (·.2)
theorem l_slices_Concat_Sint_int_0 : (DL_slices_Concat_Sint_int_0).OK E_slices_Concat_Sint_int tt Z_slices_Concat_Sint_int (orcOf O_slices_Concat_Sint_int) B_slices_Concat_Sint_int_0 where
  ok := by kernel_rfl
  oke := by kernel_rfl
  okr := by kernel_rfl
  eta := fun _ => rfl
  step := fun _ _ => by kernel_rfl
noncomputable def B_slices_Concat_Sint_int_2 : Code := ((loopsOf C_slices_Concat_Sint_int).find? fun p => Nat.beq p.1 2).elim .skip (·.2)
theorem l_slices_Concat_Sint_int_2 : (DL_slices_Concat_Sint_int_2).OK E_slices_Concat_Sint_int tt Z_slices_Concat_Sint_int (orcOf O_slices_Concat_Sint_int) B_slices_Concat_Sint_int_2 where
  ok := by kernel_rfl
  oke := by kernel_rfl
  okr := by kernel_rfl
  eta := fun _ => rfl
  step := fun _ _ => by kernel_rfl
theorem o_slices_Concat_Sint_int : LoopsOK E_slices_Concat_Sint_int tt Z_slices_Concat_Sint_int O_slices_Concat_Sint_int C_slices_Concat_Sint_int := by
  have h : loopsOf C_slices_Concat_Sint_int = [(0, B_slices_Concat_Sint_int_0), (2, B_slices_Concat_Sint_int_2)] := by kernel_rfl
  unfold LoopsOK
  rw [h]
  exact List.forall_mem_cons.2 ⟨fun d h => (by have e : some (DL_slices_Concat_Sint_int_0) = some d := h; cases e; exact l_slices_Concat_Sint_int_0), List.forall_mem_cons.2 ⟨fun d h => (by have e : some (DL_slices_Concat_Sint_int_2) = some d := h; cases e; exact l_slices_Concat_Sint_int_2), fun _ h => absurd h List.not_mem_nil⟩⟩
theorem ok_slices_Concat_Sint_int : FnOK prog E_slices_Concat_Sint_int tt 138 D_slices_Concat_Sint_int K_slices_Concat_Sint_int Z_slices_Concat_Sint_int O_slices_Concat_Sint_int f138 C_slices_Concat_Sint_int (fun x => T_slices_Concat_Sint_int x.1.1) (fun r => (((), ()), (r, ()))) where
  at_ := func138
  name := by kernel_rfl
  body := by kernel_rfl
  res := by kernel_rfl
  ok := by kernel_rfl
  arity := fun _ => Nat.le_of_ble_eq_true (by kernel_rfl)
  pin := fun _ => by kernel_rfl
  chk := by kernel_rfl
  loops := o_slices_Concat_Sint_int
  run := e_slices_Concat_Sint_int
  F := fun _ => rfl
  emb := fun _ => rfl
theorem fd_slices_Concat_Sint_int : FDok prog (138, D_slices_Concat_Sint_int) := fn_ok mixed (env_ok (List.forall_mem_cons.2 ⟨fd_slices_Grow_Sint_int, fun _ h => absurd h List.not_mem_nil⟩)) tabOK ok_slices_Concat_Sint_int
theorem e_slices_IndexFunc_Sint_int : ∀ x : D_slices_IndexFunc_Sint_int.T, ((acode E_slices_IndexFunc_Sint_int tt Z_slices_IndexFunc_Sint_int (orcOf O_slices_IndexFunc_Sint_int) C_slices_IndexFunc_Sint_int (entry A_slices_IndexFunc_Sint_int I_slices_IndexFunc_Sint_int x)).map (keepRet tt K_slices_IndexFunc_Sint_int)).ev = ((T_slices_IndexFunc_Sint_int x.1.1 x.1.2.1).map fun r => some ((((r, ()), ())) : K_slices_IndexFunc_Sint_int.T)).ev := fun _ => by kernel_rfl
noncomputable def B_slices_IndexFunc_Sint_int_0 : Code := ((loopsOf C_slices_IndexFunc_Sint_int).find? fun p => Nat.beq p.1 0).elim .skip (·.2)
theorem l_slices_IndexFunc_Sint_int_0 : (DL_slices_IndexFunc_Sint_int_0).OK E_slices_IndexFunc_Sint_int tt Z_slices_IndexFunc_Sint_int (orcOf O_slices_IndexFunc_Sint_int) B_slices_IndexFunc_Sint_int_0 where
  ok := by kernel_rfl
  oke := by kernel_rfl
  okr := by kernel_rfl
  eta := fun _ => rfl
  step := fun _ _ => by kernel_rfl
theorem o_slices_IndexFunc_Sint_int : LoopsOK E_slices_IndexFunc_Sint_int tt Z_slices_IndexFunc_Sint_int O_slices_IndexFunc_Sint_int C_slices_IndexFunc_Sint_int := by
  have h : loopsOf C_slices_IndexFunc_Sint_int = [(0, B_slices_IndexFunc_Sint_int_0)] := by kernel_rfl
  unfold LoopsOK
  rw [h]
  exact List.forall_mem_cons.2 ⟨fun d h => (by have e : some (DL_slices_IndexFunc_Sint_int_0) = some d := h; cases e; exact l_slices_IndexFunc_Sint_int_0), fun _ h => absurd h List.not_mem_nil⟩
theorem ok_slices_IndexFunc_Sint_int : FnOK prog E_slices_IndexFunc_Sint_int tt 193 D_slices_IndexFunc_Sint_int K_slices_IndexFunc_Sint_int Z_slices_IndexFunc_Sint_int O_slices_IndexFunc_Sint_int f193 C_slices_IndexFunc_Sint_int (fun x => T_slices_IndexFunc_Sint_int x.1.1 x.1.2.1) (fun r => ((r, ()), ())) where
  at_ := func193
  name := by kernel_rfl
  body := by kernel_rfl
  res := by kernel_rfl
  ok := by kernel_rfl
  arity := fun _ => Nat.le_of_ble_eq_true (by kernel_rfl)
  pin := fun _ => by kernel_rfl
  chk := by kernel_rfl
  loops := o_slices_IndexFunc_Sint_int
  run := e_slices_IndexFunc_Sint_int
  F := fun _ => rfl
  emb := fun _ => rfl
theorem fd_slices_IndexFunc_Sint_int : FDok prog (193, D_slices_IndexFunc_Sint_int) := fn_ok mixed (env_ok (fun _ h => absurd h List.not_mem_nil)) tabOK ok_slices_IndexFunc_Sint_int
theorem e_slices_ContainsFunc_Sint_int : ∀ x : D_slices_ContainsFunc_Sint_int.T, ((acode E_slices_ContainsFunc_Sint_int tt Z_slices_ContainsFunc_Sint_int (orcOf O_slices_ContainsFunc_Sint_int) C_slices_ContainsFunc_Sint_int (entry A_slices_ContainsFunc_Sint_int I_slices_ContainsFunc_Sint_int x)).map (keepRet tt K_slices_ContainsFunc_Sint_int)).ev = ((T_slices_ContainsFunc_Sint_int x.1.1 x.1.2.1).map fun r => some ((((r, ()), ())) : K_slices_ContainsFunc_Sint_int.T)).ev := fun _ => by kernel_rfl
theorem o_slices_ContainsFunc_Sint_int : LoopsOK E_slices_ContainsFunc_Sint_int tt Z_slices_ContainsFunc_Sint_int O_slices_ContainsFunc_Sint_int C_slices_ContainsFunc_Sint_int := by
  have h : loopsOf C_slices_ContainsFunc_Sint_int = [] := by kernel_rfl
  unfold LoopsOK
  rw [h]
  exact fun _ h => absurd h List.not_mem_nil
theorem ok_slices_ContainsFunc_Sint_int : FnOK prog E_slices_ContainsFunc_Sint_int tt 177 D_slices_ContainsFunc_Sint_int K_slices_ContainsFunc_Sint_int Z_slices_ContainsFunc_Sint_int O_slices_ContainsFunc_Sint_int f177 C_slices_ContainsFunc_Sint_int (fun x => T_slices_ContainsFunc_Sint_int x.1.1 x.1.2.1) (fun r => ((r, ()), ())) where
  at_ := func177
  name := by kernel_rfl
  body := by kernel_rfl
  res := by kernel_rfl
  ok := by kernel_rfl
  arity := fun _ => Nat.le_of_ble_eq_true (by kernel_rfl)
  pin := fun _ => by kernel_rfl
  chk := by kernel_rfl
  loops := o_slices_ContainsFunc_Sint_int
  run := e_slices_ContainsFunc_Sint_int
  F := fun _ => rfl
  emb := fun _ => rfl
theorem fd_slices_ContainsFunc_Sint_int : FDok prog (177, D_slices_ContainsFunc_Sint_int) := fn_ok mixed (env_ok (List.forall_mem_cons.2 ⟨fd_slices_IndexFunc_Sint_int, fun _ h => absurd h List.not_mem_nil⟩)) tabOK ok_slices_ContainsFunc_Sint_int
theorem e_im_areBetween_1 : ∀ x : D_im_areBetween_1.T, ((acode E_im_areBetween_1 tt Z_im_areBetween_1 (orcOf O_im_areBetween_1) C_im_areBetween_1 (entry A_im_areBetween_1 I_im_areBetween_1 x)).map (keepRet tt K_im_areBetween_1)).ev = ((T_im_areBetween_1 x.1.1 x.1.2.1.1 x.1.2.2.1.1).map fun r => some ((((r, ()), ())) : K_im_areBetween_1.T)).ev := fun _ => by kernel_rfl
theorem o_im_areBetween_1 : LoopsOK E_im_areBetween_1 tt Z_im_areBetween_1 O_im_areBetween_1 C_im_areBetween_1 := by
  have h : loopsOf C_im_areBetween_1 = [] := by kernel_rfl
  unfold LoopsOK
  rw [h]
  exact fun _ h => absurd h List.not_mem_nil
theorem ok_im_areBetween_1 : FnOK prog E_im_areBetween_1 tt 178 D_im_areBetween_1 K_im_areBetween_1 Z_im_areBetween_1 O_im_areBetween_1 f178 C_im_areBetween_1 (fun x => T_im_areBetween_1 x.1.1 x.1.2.1.1 x.1.2.2.1.1) (fun r => ((r, ()), ())) where
  at_ := func178
  name := by kernel_rfl
  body := by kernel_rfl
  res := by kernel_rfl
  ok := by kernel_rfl
  arity := fun _ => Nat.le_of_ble_eq_true (by kernel_rfl)
  pin := fun _ => by kernel_rfl
  chk := by kernel_rfl
  loops := o_im_areBetween_1
  run := e_im_areBetween_1
  F := fun _ => rfl
  emb := fun _ => rfl
theorem fd_im_areBetween_1 : FDok prog (178, D_im_areBetween_1) := fn_ok mixed (env_ok (List.forall_mem_cons.2 ⟨fd_im_between, fun _ h => absurd h List.not_mem_nil⟩)) tabOK ok_im_areBetween_1
theorem e_im_areBetween : ∀ x : D_im_areBetween.T, ((acode E_im_areBetween tt Z_im_areBetween (orcOf O_im_areBetween) C_im_areBetween (entry A_im_areBetween I_im_areBetween x)).map (keepRet tt K_im_areBetween)).ev = ((T_im_areBetween x.1.1 x.1.2.1 x.1.2.2.1).map fun r => some ((((r, ()), ())) : K_im_areBetween.T)).ev := fun _ => by kernel_rfl
theorem o_im_areBetween : LoopsOK E_im_areBetween tt Z_im_areBetween O_im_areBetween C_im_areBetween := by
  have h : loopsOf C_im_areBetween = [] := by kernel_rfl
  unfold LoopsOK
  rw [h]
  exact fun _ h => absurd h List.not_mem_nil
theorem ok_im_areBetween : FnOK prog E_im_areBetween tt 137 D_im_areBetween K_im_areBetween Z_im_areBetween O_im_areBetween f137 C_im_areBetween (fun x => T_im_areBetween x.1.1 x.1.2.1 x.1.2.2.1) (fun r => ((r, ()), ())) where
  at_ := func137
  name := by kernel_rfl
  body := by kernel_rfl
  res := by kernel_rfl
  ok := by kernel_rfl
  arity := fun _ => Nat.le_of_ble_eq_true (by kernel_rfl)
  pin := fun _ => by kernel_rfl
  chk := by kernel_rfl
  loops := o_im_areBetween
  run := e_im_areBetween
  F := fun _ => rfl
  emb := fun _ => rfl
theorem fd_im_areBetween : FDok prog (137, D_im_areBetween) := fn_ok mixed (env_ok (List.forall_mem_cons.2 ⟨fd_slices_ContainsFunc_Sint_int, List.forall_mem_cons.2 ⟨fd_slices_ContainsFunc_Sint_int, List.forall_mem_cons.2 ⟨fd_im_areBetween_1, fun _ h => absurd h List.not_mem_nil⟩⟩⟩)) tabOK ok_im_areBetween
theorem e_slices_IndexFunc_SSSint_SSint : ∀ x : D_slices_IndexFunc_SSSint_SSint.T, ((acode E_slices_IndexFunc_SSSint_SSint tt Z_slices_IndexFunc_SSSint_SSint (orcOf O_slices_IndexFunc_SSSint_SSint) C_slices_IndexFunc_SSSint_SSint (entry A_slices_IndexFunc_SSSint_SSint I_slices_IndexFunc_SSSint_SSint x)).map (keepRet tt K_slices_IndexFunc_SSSint_SSint)).ev = ((T_slices_IndexFunc_SSSint_SSint x.1.1 x.1.2.1).map fun r => some ((((r, ()), ())) : K_slices_IndexFunc_SSSint_SSint.T)).ev := fun _ => by kernel_rfl
noncomputable def B_slices_IndexFunc_SSSint_SSint_0 : Code := ((loopsOf C_slices_IndexFunc_SSSint_SSint).find? fun p => Nat.beq p.1 0).elim .skip (·.2)
theorem l_slices_IndexFunc_SSSint_SSint_0 : (DL_slices_IndexFunc_SSSint_SSint_0).OK E_slices_IndexFunc_SSSint_SSint tt Z_slices_IndexFunc_SSSint_SSint (orcOf O_slices_IndexFunc_SSSint_SSint) B_slices_IndexFunc_SSSint_SSint_0 where
  ok := by kernel_rfl
  oke := by kernel_rfl
  okr := by kernel_rfl
  eta := fun _ => rfl
  step := fun _ _ => by kernel_rfl
theorem o_slices_IndexFunc_SSSint_SSint : LoopsOK E_slices_IndexFunc_SSSint_SSint tt Z_slices_IndexFunc_SSSint_SSint O_slices_IndexFunc_SSSint_SSint C_slices_IndexFunc_SSSint_SSint := by
  have h : loopsOf C_slices_IndexFunc_SSSint_SSint = [(0, B_slices_IndexFunc_SSSint_SSint_0)] := by kernel_rfl
  unfold LoopsOK
  rw [h]
  exact List.forall_mem_cons.2 ⟨fun d h => (by have e : some (DL_slices_IndexFunc_SSSint_SSint_0) = some d := h; cases e; exact l_slices_IndexFunc_SSSint_SSint_0), fun _ h => absurd h List.not_mem_nil⟩
theorem ok_slices_IndexFunc_SSSint_SSint : FnOK prog E_slices_IndexFunc_SSSint_SSint tt 180 D_slices_IndexFunc_SSSint_SSint K_slices_IndexFunc_SSSint_SSint Z_slices_IndexFunc_SSSint_SSint O_slices_IndexFunc_SSSint_SSint f180 C_slices_IndexFunc_SSSint_SSint (fun x => T_slices_IndexFunc_SSSint_SSint x.1.1 x.1.2.1) (fun r => ((r, ()), ())) where
  at_ := func180
  name := by kernel_rfl
  body := by kernel_rfl
  res := by kernel_rfl
  ok := by kernel_rfl
  arity := fun _ => Nat.le_of_ble_eq_true (by kernel_rfl)
  pin := fun _ => by kernel_rfl
  chk := by kernel_rfl
  loops := o_slices_IndexFunc_SSSint_SSint
  run := e_slices_IndexFunc_SSSint_SSint
  F := fun _ => rfl
  emb := fun _ => rfl
theorem fd_slices_IndexFunc_SSSint_SSint : FDok prog (180, D_slices_IndexFunc_SSSint_SSint) := fn_ok mixed (env_ok (fun _ h => absurd h List.not_mem_nil)) tabOK ok_slices_IndexFunc_SSSint_SSint
theorem e_slices_ContainsFunc_SSSint_SSint : ∀ x : D_slices_ContainsFunc_SSSint_SSint.T, ((acode E_slices_ContainsFunc_SSSint_SSint tt Z_slices_ContainsFunc_SSSint_SSint (orcOf O_slices_ContainsFunc_SSSint_SSint) C_slices_ContainsFunc_SSSint_SSint (entry A_slices_ContainsFunc_SSSint_SSint I_slices_ContainsFunc_SSSint_SSint x)).map (keepRet tt K_slices_ContainsFunc_SSSint_SSint)).ev = ((T_slices_ContainsFunc_SSSint_SSint x.1.1 x.1.2.1).map fun r => some ((((r, ()), ())) : K_slices_ContainsFunc_SSSint_SSint.T)).ev := fun _ => by kernel_rfl
theorem o_slices_ContainsFunc_SSSint_SSint : LoopsOK E_slices_ContainsFunc_SSSint_SSint tt Z_slices_ContainsFunc_SSSint_SSint O_slices_ContainsFunc_SSSint_SSint C_slices_ContainsFunc_SSSint_SSint := by
  have h : loopsOf C_slices_ContainsFunc_SSSint_SSint = [] := by kernel_rfl
  unfold LoopsOK
  rw [h]
  exact fun _ h => absurd h List.not_mem_nil
theorem ok_slices_ContainsFunc_SSSint_SSint : FnOK prog E_slices_ContainsFunc_SSSint_SSint tt 139 D_slices_ContainsFunc_SSSint_SSint K_slices_ContainsFunc_SSSint_SSint Z_slices_ContainsFunc_SSSint_SSint O_slices_ContainsFunc_SSSint_SSint f139 C_slices_ContainsFunc_SSSint_SSint (fun x => T_slices_ContainsFunc_SSSint_SSint x.1.1 x.1.2.1) (fun r => ((r, ()), ())) where
  at_ := func139
  name := by kernel_rfl
  body := by kernel_rfl
  res := by kernel_rfl
  ok := by kernel_rfl
  arity := fun _ => Nat.le_of_ble_eq_true (by kernel_rfl)
  pin := fun _ => by kernel_rfl
  chk := by kernel_rfl
  loops := o_slices_ContainsFunc_SSSint_SSint
  run := e_slices_ContainsFunc_SSSint_SSint
  F := fun _ => rfl
  emb := fun _ => rfl
theorem fd_slices_ContainsFunc_SSSint_SSint : FDok prog (139, D_slices_ContainsFunc_SSSint_SSint) := fn_ok mixed (env_ok (List.forall_mem_cons.2 ⟨fd_slices_IndexFunc_SSSint_SSint, fun _ h => absurd h List.not_mem_nil⟩)) tabOK ok_slices_ContainsFunc_SSSint_SSint
theorem e_slices_IndexFunc_SSint_Sint : ∀ x : D_slices_IndexFunc_SSint_Sint.T, ((acode E_slices_IndexFunc_SSint_Sint tt Z_slices_IndexFunc_SSint_Sint (orcOf O_slices_IndexFunc_SSint_Sint) C_slices_IndexFunc_SSint_Sint (entry A_slices_IndexFunc_SSint_Sint I_slices_IndexFunc_SSint_Sint x)).map (keepRet tt K_slices_IndexFunc_SSint_Sint)).ev = ((T_slices_IndexFunc_SSint_Sint x.1.1 x.1.2.1).map fun r => some ((((r, ()), ())) : K_slices_IndexFunc_SSint_Sint.T)).ev := fun _ => by kernel_rfl
noncomputable def B_slices_IndexFunc_SSint_Sint_0 : Code := ((loopsOf C_slices_IndexFunc_SSint_Sint).find? fun p => Nat.beq p.1 0).elim .skip (·.2)
theorem l_slices_IndexFunc_SSint_Sint_0 : (DL_slices_IndexFunc_SSint_Sint_0).OK E_slices_IndexFunc_SSint_Sint tt Z_slices_IndexFunc_SSint_Sint (orcOf O_slices_IndexFunc_SSint_Sint) B_slices_IndexFunc_SSint_Sint_0 where
  ok := by kernel_rfl
  oke := by kernel_rfl
  okr := by kernel_rfl
  eta := fun _ => rfl
  step := fun _ _ => by kernel_rfl
theorem o_slices_IndexFunc_SSint_Sint : LoopsOK E_slices_IndexFunc_SSint_Sint tt Z_slices_IndexFunc_SSint_Sint O_slices_IndexFunc_SSint_Sint C_slices_IndexFunc_SSint_Sint := by
  have h : loopsOf C_slices_IndexFunc_SSint_Sint = [(0, B_slices_IndexFunc_SSint_Sint_0)] := by kernel_rfl
  unfold LoopsOK
  rw [h]
  exact List.forall_mem_cons.2 ⟨fun d h => (by have e : some (DL_slices_IndexFunc_SSint_Sint_0) = some d := h; cases e; exact l_slices_IndexFunc_SSint_Sint_0), fun _ h => absurd h List.not_mem_nil⟩
theorem ok_slices_IndexFunc_SSint_Sint : FnOK prog E_slices_IndexFunc_SSint_Sint tt 167 D_slices_IndexFunc_SSint_Sint K_slices_IndexFunc_SSint_Sint Z_slices_IndexFunc_SSint_Sint O_slices_IndexFunc_SSint_Sint f167 C_slices_IndexFunc_SSint_Sint (fun x => T_slices_IndexFunc_SSint_Sint x.1.1 x.1.2.1) (fun r => ((r, ()), ())) where
  at_ := func167
  name := by kernel_rfl
  body := by kernel_rfl
  res := by kernel_rfl
  ok := by kernel_rfl
  arity := fun _ => Nat.le_of_ble_eq_true (by kernel_rfl)
  pin := fun _ => by kernel_rfl
  chk := by kernel_rfl
  loops := o_slices_IndexFunc_SSint_Sint
  run := e_slices_IndexFunc_SSint_Sint
  F := fun _ => rfl
  emb := fun _ => rfl
theorem fd_slices_IndexFunc_SSint_Sint : FDok prog (167, D_slices_IndexFunc_SSint_Sint) := fn_ok mixed (env_ok (fun _ h => absurd h List.not_mem_nil)) tabOK ok_slices_IndexFunc_SSint_Sint
theorem e_slices_ContainsFunc_SSint_Sint : ∀ x : D_slices_ContainsFunc_SSint_Sint.T, ((acode E_slices_ContainsFunc_SSint_Sint tt Z_slices_ContainsFunc_SSint_Sint (orcOf O_slices_ContainsFunc_SSint_Sint) C_slices_ContainsFunc_SSint_Sint (entry A_slices_ContainsFunc_SSint_Sint I_slices_ContainsFunc_SSint_Sint x)).map (keepRet tt K_slices_ContainsFunc_SSint_Sint)).ev = ((T_slices_ContainsFunc_SSint_Sint x.1.1 x.1.2.1).map fun r => some ((((r, ()), ())) : K_slices_ContainsFunc_SSint_Sint.T)).ev := fun _ => by kernel_rfl
theorem o_slices_ContainsFunc_SSint_Sint : LoopsOK E_slices_ContainsFunc_SSint_Sint tt Z_slices_ContainsFunc_SSint_Sint O_slices_ContainsFunc_SSint_Sint C_slices_ContainsFunc_SSint_Sint := by
  have h : loopsOf C_slices_ContainsFunc_SSint_Sint = [] := by kernel_rfl
  unfold LoopsOK
  rw [h]
  exact fun _ h => absurd h List.not_mem_nil
theorem ok_slices_ContainsFunc_SSint_Sint : FnOK prog E_slices_ContainsFunc_SSint_Sint tt 141 D_slices_ContainsFunc_SSint_Sint K_slices_ContainsFunc_SSint_Sint Z_slices_ContainsFunc_SSint_Sint O_slices_ContainsFunc_SSint_Sint f141 C_slices_ContainsFunc_SSint_Sint (fun x => T_slices_ContainsFunc_SSint_Sint x.1.1 x.1.2.1) (fun r => ((r, ()), ())) where
  at_ := func141
  name := by kernel_rfl
  body := by kernel_rfl
  res := by kernel_rfl
  ok := by kernel_rfl
  arity := fun _ => Nat.le_of_ble_eq_true (by kernel_rfl)
  pin := fun _ => by kernel_rfl
  chk := by kernel_rfl
  loops := o_slices_ContainsFunc_SSint_Sint
  run := e_slices_ContainsFunc_SSint_Sint
  F := fun _ => rfl
  emb := fun _ => rfl
theorem fd_slices_ContainsFunc_SSint_Sint : FDok prog (141, D_slices_ContainsFunc_SSint_Sint) := fn_ok mixed (env_ok (List.forall_mem_cons.2 ⟨fd_slices_IndexFunc_SSint_Sint, fun _ h => absurd h List.not_mem_nil⟩)) tabOK ok_slices_ContainsFunc_SSint_Sint
theorem e_im_IsSeason_1_1 : ∀ x : D_im_IsSeason_1_1.T, ((acode E_im_IsSeason_1_1 tt Z_im_IsSeason_1_1 (orcOf O_im_IsSeason_1_1) C_im_IsSeason_1_1 (entry A_im_IsSeason_1_1 I_im_IsSeason_1_1 x)).map (keepRet tt K_im_IsSeason_1_1)).ev = ((T_im_IsSeason_1_1 x.1.1 x.1.2.1.1).map fun r => some ((((r, ()), ())) : K_im_IsSeason_1_1.T)).ev := fun _ => by kernel_rfl
theorem o_im_IsSeason_1_1 : LoopsOK E_im_IsSeason_1_1 tt Z_im_IsSeason_1_1 O_im_IsSeason_1_1 C_im_IsSeason_1_1 := by
  have h : loopsOf C_im_IsSeason_1_1 = [] := by kernel_rfl
  unfold LoopsOK
  rw [h]
  exact fun _ h => absurd h List.not_mem_nil
theorem ok_im_IsSeason_1_1 : FnOK prog E_im_IsSeason_1_1 tt 142 D_im_IsSeason_1_1 K_im_IsSeason_1_1 Z_im_IsSeason_1_1 O_im_IsSeason_1_1 f142 C_im_IsSeason_1_1 (fun x => T_im_IsSeason_1_1 x.1.1 x.1.2.1.1) (fun r => ((r, ()), ())) where
  at_ := func142
  name := by kernel_rfl
  body := by kernel_rfl
  res := by kernel_rfl
  ok := by kernel_rfl
  arity := fun _ => Nat.le_of_ble_eq_true (by kernel_rfl)
  pin := fun _ => by kernel_rfl
  chk := by kernel_rfl
  loops := o_im_IsSeason_1_1
  run := e_im_IsSeason_1_1
  F := fun _ => rfl
  emb := fun _ => rfl
theorem fd_im_IsSeason_1_1 : FDok prog (142, D_im_IsSeason_1_1) := fn_ok mixed (env_ok (List.forall_mem_cons.2 ⟨fd_im_areBetween, fun _ h => absurd h List.not_mem_nil⟩)) tabOK ok_im_IsSeason_1_1
theorem e_im_IsSeason_1 : ∀ x : D_im_IsSeason_1.T, ((acode E_im_IsSeason_1 tt Z_im_IsSeason_1 (orcOf O_im_IsSeason_1) C_im_IsSeason_1 (entry A_im_IsSeason_1 I_im_IsSeason_1 x)).map (keepRet tt K_im_IsSeason_1)).ev = ((T_im_IsSeason_1 x.1.1 x.1.2.1.1).map fun r => some ((((r, ()), ())) : K_im_IsSeason_1.T)).ev := fun _ => by kernel_rfl
theorem o_im_IsSeason_1 : LoopsOK E_im_IsSeason_1 tt Z_im_IsSeason_1 O_im_IsSeason_1 C_im_IsSeason_1 := by
  have h : loopsOf C_im_IsSeason_1 = [] := by kernel_rfl
  unfold LoopsOK
  rw [h]
  exact fun _ h => absurd h List.not_mem_nil
theorem ok_im_IsSeason_1 : FnOK prog E_im_IsSeason_1 tt 140 D_im_IsSeason_1 K_im_IsSeason_1 Z_im_IsSeason_1 O_im_IsSeason_1 f140 C_im_IsSeason_1 (fun x => T_im_IsSeason_1 x.1.1 x.1.2.1.1) (fun r => ((r, ()), ())) where
  at_ := func140
  name := by kernel_rfl
  body := by kernel_rfl
  res := by kernel_rfl
  ok := by kernel_rfl
  arity := fun _ => Nat.le_of_ble_eq_true (by kernel_rfl)
  pin := fun _ => by kernel_rfl
  chk := by kernel_rfl
  loops := o_im_IsSeason_1
  run := e_im_IsSeason_1
  F := fun _ => rfl
  emb := fun _ => rfl
theorem fd_im_IsSeason_1 : FDok prog (140, D_im_IsSeason_1) := fn_ok mixed (env_ok (List.forall_mem_cons.2 ⟨fd_slices_ContainsFunc_SSint_Sint, List.forall_mem_cons.2 ⟨fd_slices_ContainsFunc_SSint_Sint, List.forall_mem_cons.2 ⟨fd_im_IsSeason_1_1, fun _ h => absurd h List.not_mem_nil⟩⟩⟩)) tabOK ok_im_IsSeason_1
theorem e_im_IsSeason : ∀ x : D_im_IsSeason.T, ((acode E_im_IsSeason tt Z_im_IsSeason (orcOf O_im_IsSeason) C_im_IsSeason (entry A_im_IsSeason I_im_IsSeason x)).map (keepRet tt K_im_IsSeason)).ev = ((T_im_IsSeason x.1.1.1 x.1.1.2.1 x.1.1.2.2.1 x.1.1.2.2.2.1).map fun r => some ((((r, ()), ())) : K_im_IsSeason.T)).ev := fun _ => by kernel_rfl
theorem o_im_IsSeason : LoopsOK E_im_IsSeason tt Z_im_IsSeason O_im_IsSeason C_im_IsSeason := by
  have h : loopsOf C_im_IsSeason = [] := by kernel_rfl
  unfold LoopsOK
  rw [h]
  exact fun _ h => absurd h List.not_mem_nil
theorem ok_im_IsSeason : FnOK prog E_im_IsSeason tt 69 D_im_IsSeason K_im_IsSeason Z_im_IsSeason O_im_IsSeason f69 C_im_IsSeason (fun x => T_im_IsSeason x.1.1.1 x.1.1.2.1 x.1.1.2.2.1 x.1.1.2.2.2.1) (fun r => ((r, ()), ())) where
  at_ := func69
  name := by kernel_rfl
  body := by kernel_rfl
  res := by kernel_rfl
  ok := by kernel_rfl
  arity := fun _ => Nat.le_of_ble_eq_true (by kernel_rfl)
  pin := fun _ => by kernel_rfl
  chk := by kernel_rfl
  loops := o_im_IsSeason
  run := e_im_IsSeason
  F := fun _ => rfl
  emb := fun _ => rfl
theorem fd_im_IsSeason : FDok prog (69, D_im_IsSeason) := fn_ok mixed (env_ok (List.forall_mem_cons.2 ⟨fd_im_between, List.forall_mem_cons.2 ⟨fd_slices_Concat_Sint_int, List.forall_mem_cons.2 ⟨fd_im_areBetween, List.forall_mem_cons.2 ⟨fd_slices_ContainsFunc_SSSint_SSint, List.forall_mem_cons.2 ⟨fd_slices_ContainsFunc_SSSint_SSint, List.forall_mem_cons.2 ⟨fd_im_IsSeason_1, fun _ h => absurd h List.not_mem_nil⟩⟩⟩⟩⟩⟩)) tabOK ok_im_IsSeason
theorem e_im_bag_has : ∀ x : D_im_bag_has.T, ((acode E_im_bag_has tt Z_im_bag_has (orcOf O_im_bag_has) C_im_bag_has (entry A_im_bag_has I_im_bag_has x)).map (keepRet tt K_im_bag_has)).ev = ((T_im_bag_has x.1.1 x.1.2.1).map fun r => some ((((r, ()), ())) : K_im_bag_has.T)).ev := fun _ => by kernel_rfl
theorem o_im_bag_has : LoopsOK E_im_bag_has tt Z_im_bag_has O_im_bag_has C_im_bag_has := by
  have h : loopsOf C_im_bag_has = [] := by kernel_rfl
  unfold LoopsOK
  rw [h]
  exact fun _ h => absurd h List.not_mem_nil
theorem ok_im_bag_has : FnOK prog E_im_bag_has tt 152 D_im_bag_has K_im_bag_has Z_im_bag_has O_im_bag_has f152 C_im_bag_has (fun x => T_im_bag_has x.1.1 x.1.2.1) (fun r => ((r, ()), ())) where
  at_ := func152
  name := by kernel_rfl
  body := by kernel_rfl
  res := by kernel_rfl
  ok := by kernel_rfl
  arity := fun _ => Nat.le_of_ble_eq_true (by kernel_rfl)
  pin := fun _ => by kernel_rfl
  chk := by kernel_rfl
  loops := o_im_bag_has
  run := e_im_bag_has
  F := fun _ => rfl
  emb := fun _ => rfl
theorem fd_im_bag_has : FDok prog (152, D_im_bag_has) := fn_ok mixed (env_ok (fun _ h => absurd h List.not_mem_nil)) tabOK ok_im_bag_has
theorem e_im_bag_list : ∀ x : D_im_bag_list.T, ((acode E_im_bag_list tt Z_im_bag_list (orcOf O_im_bag_list) C_im_bag_list (entry A_im_bag_list I_im_bag_list x)).map (keepRet tt K_im_bag_list)).ev = ((T_im_bag_list x.1.1).map fun r => some (((((), ()), (r, ()))) : K_im_bag_list.T)).ev := fun _ => by kernel_rfl
noncomputable def B_im_bag_list_0 : Code := ((loopsOf C_im_bag_list).find? fun p => Nat.beq p.1 0).elim .skip (·.2)
theorem l_im_bag_list_0 : (DL_im_bag_list_0).OK E_im_bag_list tt Z_im_bag_list (orcOf O_im_bag_list) B_im_bag_list_0 where
  ok := by kernel_rfl
  oke := by kernel_rfl
  okr := by kernel_rfl
  eta := fun _ => rfl
  step := fun _ _ => by kernel_rfl
theorem o_im_bag_list : LoopsOK E_im_bag_list tt Z_im_bag_list O_im_bag_list C_im_bag_list := by
  have h : loopsOf C_im_bag_list = [(0, B_im_bag_list_0)] := by kernel_rfl
  unfold LoopsOK
  rw [h]
  exact List.forall_mem_cons.2 ⟨fun d h => (by have e : some (DL_im_bag_list_0) = some d := h; cases e; exact l_im_bag_list_0), fun _ h => absurd h List.not_mem_nil⟩
theorem ok_im_bag_list : FnOK prog E_im_bag_list tt 144 D_im_bag_list K_im_bag_list Z_im_bag_list O_im_bag_list f144 C_im_bag_list (fun x => T_im_bag_list x.1.1) (fun r => (((), ()), (r, ()))) where
  at_ := func144
  name := by kernel_rfl
  body := by kernel_rfl
  res := by kernel_rfl
  ok := by kernel_rfl
  arity := fun _ => Nat.le_of_ble_eq_true (by kernel_rfl)
  pin := fun _ => by kernel_rfl
  chk := by kernel_rfl
  loops := o_im_bag_list
  run := e_im_bag_list
  F := fun _ => rfl
  emb := fun _ => rfl
theorem fd_im_bag_list : FDok prog (144, D_im_bag_list) := fn_ok mixed (env_ok (List.forall_mem_cons.2 ⟨fd_im_bag_has, fun _ h => absurd h List.not_mem_nil⟩)) tabOK ok_im_bag_list
theorem e_math_bits_Len64 : ∀ x : D_math_bits_Len64.T, ((acode E_math_bits_Len64 tt Z_math_bits_Len64 (orcOf O_math_bits_Len64) C_math_bits_Len64 (entry A_math_bits_Len64 I_math_bits_Len64 x)).map (keepRet tt K_math_bits_Len64)).ev = ((T_math_bits_Len64 x.1.1).map fun r => some ((((r, ()), ())) : K_math_bits_Len64.T)).ev := fun _ => by kernel_rfl
theorem o_math_bits_Len64 : LoopsOK E_math_bits_Len64 tt Z_math_bits_Len64 O_math_bits_Len64 C_math_bits_Len64 := by
  have h : loopsOf C_math_bits_Len64 = [] := by kernel_rfl
  unfold LoopsOK
  rw [h]
  exact fun _ h => absurd h List.not_mem_nil
theorem ok_math_bits_Len64 : FnOK prog E_math_bits_Len64 tt 204 D_math_bits_Len64 K_math_bits_Len64 Z_math_bits_Len64 O_math_bits_Len64 f204 C_math_bits_Len64 (fun x => T_math_bits_Len64 x.1.1) (fun r => ((r, ()), ())) where
  at_ := func204
  name := by kernel_rfl
  body := by kernel_rfl
  res := by kernel_rfl
  ok := by kernel_rfl
  arity := fun _ => Nat.le_of_ble_eq_true (by kernel_rfl)
  pin := fun _ => by kernel_rfl
  chk := by kernel_rfl
  loops := o_math_bits_Len64
  run := e_math_bits_Len64
  F := fun _ => rfl
  emb := fun _ => rfl
theorem fd_math_bits_Len64 : FDok prog (204, D_math_bits_Len64) := fn_ok mixed (env_ok (fun _ h => absurd h List.not_mem_nil)) tabOK ok_math_bits_Len64
theorem e_math_bits_Len : ∀ x : D_math_bits_Len.T, ((acode E_math_bits_Len tt Z_math_bits_Len (orcOf O_math_bits_Len) C_math_bits_Len (entry A_math_bits_Len I_math_bits_Len x)).map (keepRet tt K_math_bits_Len)).ev = ((T_math_bits_Len x.1.1).map fun r => some ((((r, ()), ())) : K_math_bits_Len.T)).ev := fun _ => by kernel_rfl
theorem o_math_bits_Len : LoopsOK E_math_bits_Len tt Z_math_bits_Len O_math_bits_Len C_math_bits_Len := by
  have h : loopsOf C_math_bits_Len = [] := by kernel_rfl
  unfold LoopsOK
  rw [h]
  exact fun _ h => absurd h List.not_mem_nil
theorem ok_math_bits_Len : FnOK prog E_math_bits_Len tt 185 D_math_bits_Len K_math_bits_Len Z_math_bits_Len O_math_bits_Len f185 C_math_bits_Len (fun x => T_math_bits_Len x.1.1) (fun r => ((r, ()), ())) where
  at_ := func185
  name := by kernel_rfl
  body := by kernel_rfl
  res := by kernel_rfl
  ok := by kernel_rfl
  arity := fun _ => Nat.le_of_ble_eq_true (by kernel_rfl)
  pin := fun _ => by kernel_rfl
  chk := by kernel_rfl
  loops := o_math_bits_Len
  run := e_math_bits_Len
  F := fun _ => rfl
  emb := fun _ => rfl
theorem fd_math_bits_Len : FDok prog (185, D_math_bits_Len) := fn_ok mixed (env_ok (List.forall_mem_cons.2 ⟨fd_math_bits_Len64, fun _ h => absurd h List.not_mem_nil⟩)) tabOK ok_math_bits_Len
theorem e_slices_insertionSortCmpFunc_Sint : ∀ x : D_slices_insertionSortCmpFunc_Sint.T, ((acode E_slices_insertionSortCmpFunc_Sint tt Z_slices_insertionSortCmpFunc_Sint (orcOf O_slices_insertionSortCmpFunc_Sint) C_slices_insertionSortCmpFunc_Sint (entry A_slices_insertionSortCmpFunc_Sint I_slices_insertionSortCmpFunc_Sint x)).map (keepRet tt K_slices_insertionSortCmpFunc_Sint)).ev = ((T_slices_insertionSortCmpFunc_Sint x.1.2.1 x.1.2.2.1 x.1.2.2.2.1 x.2.1).map fun r => some ((((), (r, ()))) : K_slices_insertionSortCmpFunc_Sint.T)).ev := fun _ => by kernel_rfl
noncomputable def B_slices_insertionSortCmpFunc_Sint_2 : Code := ((loopsOf C_slices_insertionSortCmpFunc_Sint).find? fun p => Nat.beq p.1 2).elim .skip (·.2)
theorem l_slices_insertionSortCmpFunc_Sint_2 : (DL_slices_insertionSortCmpFunc_Sint_2).OK E_slices_insertionSortCmpFunc_Sint tt Z_slices_insertionSortCmpFunc_Sint (orcOf O_slices_insertionSortCmpFunc_Sint) B_slices_insertionSortCmpFunc_Sint_2 where
  ok := by kernel_rfl
  oke := by kernel_rfl
  okr := by kernel_rfl
  eta := fun _ => rfl
  step := fun _ _ => by kernel_rfl
noncomputable def B_slices_insertionSortCmpFunc_Sint_0 : Code := ((loopsOf C_slices_insertionSortCmpFunc_Sint).find? fun p => Nat.beq p.1 0).elim .skip (·.2)
theorem l_slices_insertionSortCmpFunc_Sint_0 : (DL_slices_insertionSortCmpFunc_Sint_0).OK E_slices_insertionSortCmpFunc_Sint tt Z_slices_insertionSortCmpFunc_Sint (orcOf O_slices_insertionSortCmpFunc_Sint) B_slices_insertionSortCmpFunc_Sint_0 where
  ok := by kernel_rfl
  oke := by kernel_rfl
  okr := by kernel_rfl
  eta := fun _ => rfl
  step := fun _ _ => by kernel_rfl
theorem o_slices_insertionSortCmpFunc_Sint : LoopsOK E_slices_insertionSortCmpFunc_Sint tt Z_slices_insertionSortCmpFunc_Sint O_slices_insertionSortCmpFunc_Sint C_slices_insertionSortCmpFunc_Sint := by
  have h : loopsOf C_slices_insertionSortCmpFunc_Sint = [(0, B_slices_insertionSortCmpFunc_Sint_0), (2, B_slices_insertionSortCmpFunc_Sint_2)] := by kernel_rfl
  unfold LoopsOK
  rw [h]
  exact List.forall_mem_cons.2 ⟨fun d h => (by have e : some (DL_slices_insertionSortCmpFunc_Sint_0) = some d := h; cases e; exact l_slices_insertionSortCmpFunc_Sint_0), List.forall_mem_cons.2 ⟨fun d h => (by have e : some (DL_slices_insertionSortCmpFunc_Sint_2) = some d := h; cases e; exact l_slices_insertionSortCmpFunc_Sint_2), fun _ h => absurd h List.not_mem_nil⟩⟩
theorem ok_slices_insertionSortCmpFunc_Sint : FnOK prog E_slices_insertionSortCmpFunc_Sint tt 205 D_slices_insertionSortCmpFunc_Sint K_slices_insertionSortCmpFunc_Sint Z_slices_insertionSortCmpFunc_Sint O_slices_insertionSortCmpFunc_Sint f205 C_slices_insertionSortCmpFunc_Sint (fun x => T_slices_insertionSortCmpFunc_Sint x.1.2.1 x.1.2.2.1 x.1.2.2.2.1 x.2.1) (fun r => ((), (r, ()))) where
  at_ := func205
  name := by kernel_rfl
  body := by kernel_rfl
  res := by kernel_rfl
  ok := by kernel_rfl
  arity := fun _ => Nat.le_of_ble_eq_true (by kernel_rfl)
  pin := fun _ => by kernel_rfl
  chk := by kernel_rfl
  loops := o_slices_insertionSortCmpFunc_Sint
  run := e_slices_insertionSortCmpFunc_Sint
  F := fun _ => rfl
  emb := fun _ => rfl
theorem fd_slices_insertionSortCmpFunc_Sint : FDok prog (205, D_slices_insertionSortCmpFunc_Sint) := fn_ok mixed (env_ok (fun _ h => absurd h List.not_mem_nil)) tabOK ok_slices_insertionSortCmpFunc_Sint
theorem e_slices_order2CmpFunc_Sint : ∀ x : D_slices_order2CmpFunc_Sint.T, ((acode E_slices_order2CmpFunc_Sint tt Z_slices_order2CmpFunc_Sint (orcOf O_slices_order2CmpFunc_Sint) C_slices_order2CmpFunc_Sint (entry A_slices_order2CmpFunc_Sint I_slices_order2CmpFunc_Sint x)).map (keepRet tt K_slices_order2CmpFunc_Sint)).ev = ((T_slices_order2CmpFunc_Sint x.1.1 x.1.2.1 x.1.2.2.1 x.1.2.2.2.2.1 x.2.1.1).map fun r => some ((((r.1, (r.2.1, ())), ((r.2.2, ()), ()))) : K_slices_order2CmpFunc_Sint.T)).ev := fun _ => by kernel_rfl
theorem o_slices_order2CmpFunc_Sint : LoopsOK E_slices_order2CmpFunc_Sint tt Z_slices_order2CmpFunc_Sint O_slices_order2CmpFunc_Sint C_slices_order2CmpFunc_Sint := by
  have h : loopsOf C_slices_order2CmpFunc_Sint = [] := by kernel_rfl
  unfold LoopsOK
  rw [h]
  exact fun _ h => absurd h List.not_mem_nil
theorem ok_slices_order2CmpFunc_Sint : FnOK prog E_slices_order2CmpFunc_Sint tt 233 D_slices_order2CmpFunc_Sint K_slices_order2CmpFunc_Sint Z_slices_order2CmpFunc_Sint O_slices_order2CmpFunc_Sint f233 C_slices_order2CmpFunc_Sint (fun x => T_slices_order2CmpFunc_Sint x.1.1 x.1.2.1 x.1.2.2.1 x.1.2.2.2.2.1 x.2.1.1) (fun r => ((r.1, (r.2.1, ())), ((r.2.2, ()), ()))) where
  at_ := func233
  name := by kernel_rfl
  body := by kernel_rfl
  res := by kernel_rfl
  ok := by kernel_rfl
  arity := fun _ => Nat.le_of_ble_eq_true (by kernel_rfl)
  pin := fun _ => by kernel_rfl
  chk := by kernel_rfl
  loops := o_slices_order2CmpFunc_Sint
  run := e_slices_order2CmpFunc_Sint
  F := fun _ => rfl
  emb := fun _ => rfl
theorem fd_slices_order2CmpFunc_Sint : FDok prog (233, D_slices_order2CmpFunc_Sint) := fn_ok mixed (env_ok (fun _ h => absurd h List.not_mem_nil)) tabOK ok_slices_order2CmpFunc_Sint
theorem e_slices_medianCmpFunc_Sint : ∀ x : D_slices_medianCmpFunc_Sint.T, ((acode E_slices_medianCmpFunc_Sint tt Z_slices_medianCmpFunc_Sint (orcOf O_slices_medianCmpFunc_Sint) C_slices_medianCmpFunc_Sint (entry A_slices_medianCmpFunc_Sint I_slices_medianCmpFunc_Sint x)).map (keepRet tt K_slices_medianCmpFunc_Sint)).ev = ((T_slices_medianCmpFunc_Sint x.1.1 x.1.2.1 x.1.2.2.1 x.1.2.2.2.1 x.1.2.2.2.2.2.1 x.2.1.1).map fun r => some ((((r.1, ()), ((r.2, ()), ()))) : K_slices_medianCmpFunc_Sint.T)).ev := fun _ => by kernel_rfl
theorem o_slices_medianCmpFunc_Sint : LoopsOK E_slices_medianCmpFunc_Sint tt Z_slices_medianCmpFunc_Sint O_slices_medianCmpFunc_Sint C_slices_medianCmpFunc_Sint := by
  have h : loopsOf C_slices_medianCmpFunc_Sint = [] := by kernel_rfl
  unfold LoopsOK
  rw [h]
  exact fun _ h => absurd h List.not_mem_nil
theorem ok_slices_medianCmpFunc_Sint : FnOK prog E_slices_medianCmpFunc_Sint tt 226 D_slices_medianCmpFunc_Sint K_slices_medianCmpFunc_Sint Z_slices_medianCmpFunc_Sint O_slices_medianCmpFunc_Sint f226 C_slices_medianCmpFunc_Sint (fun x => T_slices_medianCmpFunc_Sint x.1.1 x.1.2.1 x.1.2.2.1 x.1.2.2.2.1 x.1.2.2.2.2.2.1 x.2.1.1) (fun r => ((r.1, ()), ((r.2, ()), ()))) where
  at_ := func226
  name := by kernel_rfl
  body := by kernel_rfl
  res := by kernel_rfl
  ok := by kernel_rfl
  arity := fun _ => Nat.le_of_ble_eq_true (by kernel_rfl)
  pin := fun _ => by kernel_rfl
  chk := by kernel_rfl
  loops := o_slices_medianCmpFunc_Sint
  run := e_slices_medianCmpFunc_Sint
  F := fun _ => rfl
  emb := fun _ => rfl
theorem fd_slices_medianCmpFunc_Sint : FDok prog (226, D_slices_medianCmpFunc_Sint) := fn_ok mixed (env_ok (List.forall_mem_cons.2 ⟨fd_slices_order2CmpFunc_Sint, fun _ h => absurd h List.not_mem_nil⟩)) tabOK ok_slices_medianCmpFunc_Sint
theorem e_slices_medianAdjacentCmpFunc_Sint : ∀ x : D_slices_medianAdjacentCmpFunc_Sint.T, ((acode E_slices_medianAdjacentCmpFunc_Sint tt Z_slices_medianAdjacentCmpFunc_Sint (orcOf O_slices_medianAdjacentCmpFunc_Sint) C_slices_medianAdjacentCmpFunc_Sint (entry A_slices_medianAdjacentCmpFunc_Sint I_slices_medianAdjacentCmpFunc_Sint x)).map (keepRet tt K_slices_medianAdjacentCmpFunc_Sint)).ev = ((T_slices_medianAdjacentCmpFunc_Sint x.1.1 x.1.2.1 x.1.2.2.2.1 x.2.1.1).map fun r => some ((((r.1, ()), ((r.2, ()), ()))) : K_slices_medianAdjacentCmpFunc_Sint.T)).ev := fun _ => by kernel_rfl
theorem o_slices_medianAdjacentCmpFunc_Sint : LoopsOK E_slices_medianAdjacentCmpFunc_Sint tt Z_slices_medianAdjacentCmpFunc_Sint O_slices_medianAdjacentCmpFunc_Sint C_slices_medianAdjacentCmpFunc_Sint := by
  have h : loopsOf C_slices_medianAdjacentCmpFunc_Sint = [] := by kernel_rfl
  unfold LoopsOK
  rw [h]
  exact fun _ h => absurd h List.not_mem_nil
theorem ok_slices_medianAdjacentCmpFunc_Sint : FnOK prog E_slices_medianAdjacentCmpFunc_Sint tt 225 D_slices_medianAdjacentCmpFunc_Sint K_slices_medianAdjacentCmpFunc_Sint Z_slices_medianAdjacentCmpFunc_Sint O_slices_medianAdjacentCmpFunc_Sint f225 C_slices_medianAdjacentCmpFunc_Sint (fun x => T_slices_medianAdjacentCmpFunc_Sint x.1.1 x.1.2.1 x.1.2.2.2.1 x.2.1.1) (fun r => ((r.1, ()), ((r.2, ()), ()))) where
  at_ := func225
  name := by kernel_rfl
  body := by kernel_rfl
  res := by kernel_rfl
  ok := by kernel_rfl
  arity := fun _ => Nat.le_of_ble_eq_true (by kernel_rfl)
  pin := fun _ => by kernel_rfl
  chk := by kernel_rfl
  loops := o_slices_medianAdjacentCmpFunc_Sint
  run := e_slices_medianAdjacentCmpFunc_Sint
  F := fun _ => rfl
  emb := fun _ => rfl
theorem fd_slices_medianAdjacentCmpFunc_Sint : FDok prog (225, D_slices_medianAdjacentCmpFunc_Sint) := fn_ok mixed (env_ok (List.forall_mem_cons.2 ⟨fd_slices_medianCmpFunc_Sint, fun _ h => absurd h List.not_mem_nil⟩)) tabOK ok_slices_medianAdjacentCmpFunc_Sint
theorem e_slices_choosePivotCmpFunc_Sint : ∀ x : D_slices_choosePivotCmpFunc_Sint.T, ((acode E_slices_choosePivotCmpFunc_Sint tt Z_slices_choosePivotCmpFunc_Sint (orcOf O_slices_choosePivotCmpFunc_Sint) C_slices_choosePivotCmpFunc_Sint (entry A_slices_choosePivotCmpFunc_Sint I_slices_choosePivotCmpFunc_Sint x)).map (keepRet tt K_slices_choosePivotCmpFunc_Sint)).ev = ((T_slices_choosePivotCmpFunc_Sint x.1.1 x.1.2.1 x.1.2.2.1 x.1.2.2.2.1).map fun r => some ((((r.1, (r.2, ())), ())) : K_slices_choosePivotCmpFunc_Sint.T)).ev := fun _ => by kernel_rfl
theorem o_slices_choosePivotCmpFunc_Sint : LoopsOK E_slices_choosePivotCmpFunc_Sint tt Z_slices_choosePivotCmpFunc_Sint O_slices_choosePivotCmpFunc_Sint C_slices_choosePivotCmpFunc_Sint := by
  have h : loopsOf C_slices_choosePivotCmpFunc_Sint = [] := by kernel_rfl
  unfold LoopsOK
  rw [h]
  exact fun _ h => absurd h List.not_mem_nil
theorem ok_slices_choosePivotCmpFunc_Sint : FnOK prog E_slices_choosePivotCmpFunc_Sint tt 208 D_slices_choosePivotCmpFunc_Sint K_slices_choosePivotCmpFunc_Sint Z_slices_choosePivotCmpFunc_Sint O_slices_choosePivotCmpFunc_Sint f208 C_slices_choosePivotCmpFunc_Sint (fun x => T_slices_choosePivotCmpFunc_Sint x.1.1 x.1.2.1 x.1.2.2.1 x.1.2.2.2.1) (fun r => ((r.1, (r.2, ())), ())) where
  at_ := func208
  name := by kernel_rfl
  body := by kernel_rfl
  res := by kernel_rfl
  ok := by kernel_rfl
  arity := fun _ => Nat.le_of_ble_eq_true (by kernel_rfl)
  pin := fun _ => by kernel_rfl
  chk := by kernel_rfl
  loops := o_slices_choosePivotCmpFunc_Sint
  run := e_slices_choosePivotCmpFunc_Sint
  F := fun _ => rfl
  emb := fun _ => rfl
theorem fd_slices_choosePivotCmpFunc_Sint : FDok prog (208, D_slices_choosePivotCmpFunc_Sint) := fn_ok mixed (env_ok (List.forall_mem_cons.2 ⟨fd_slices_medianAdjacentCmpFunc_Sint, List.forall_mem_cons.2 ⟨fd_slices_medianCmpFunc_Sint, fun _ h => absurd h List.not_mem_nil⟩⟩)) tabOK ok_slices_choosePivotCmpFunc_Sint
theorem e_slices_partitionCmpFunc_Sint : ∀ x : D_slices_partitionCmpFunc_Sint.T, ((acode E_slices_partitionCmpFunc_Sint tt Z_slices_partitionCmpFunc_Sint (orcOf O_slices_partitionCmpFunc_Sint) C_slices_partitionCmpFunc_Sint (entry A_slices_partitionCmpFunc_Sint I_slices_partitionCmpFunc_Sint x)).map (keepRet tt K_slices_partitionCmpFunc_Sint)).ev = ((T_slices_partitionCmpFunc_Sint x.1.2.1 x.1.2.2.1 x.1.2.2.2.1 x.1.2.2.2.2.1 x.2.1).map fun r => some ((((r.1, (r.2.1, ())), (r.2.2, ()))) : K_slices_partitionCmpFunc_Sint.T)).ev := fun _ => by kernel_rfl
noncomputable def B_slices_partitionCmpFunc_Sint_0 : Code := ((loopsOf C_slices_partitionCmpFunc_Sint).find? fun p => Nat.beq p.1 0).elim .skip (·.2)
theorem l_slices_partitionCmpFunc_Sint_0 : (DL_slices_partitionCmpFunc_Sint_0).OK E_slices_partitionCmpFunc_Sint tt Z_slices_partitionCmpFunc_Sint (orcOf O_slices_partitionCmpFunc_Sint) B_slices_partitionCmpFunc_Sint_0 where
  ok := by kernel_rfl
  oke := by kernel_rfl
  okr := by kernel_rfl
  eta := fun _ => rfl
  step := fun _ _ => by kernel_rfl
noncomputable def B_slices_partitionCmpFunc_Sint_2 : Code := ((loopsOf C_slices_partitionCmpFunc_Sint).find? fun p => Nat.beq p.1 2).elim .skip (·.2)
theorem l_slices_partitionCmpFunc_Sint_2 : (DL_slices_partitionCmpFunc_Sint_2).OK E_slices_partitionCmpFunc_Sint tt Z_slices_partitionCmpFunc_Sint (orcOf O_slices_partitionCmpFunc_Sint) B_slices_partitionCmpFunc_Sint_2 where
  ok := by kernel_rfl
  oke := by kernel_rfl
  okr := by kernel_rfl
  eta := fun _ => rfl
  step := fun _ _ => by kernel_rfl
noncomputable def B_slices_partitionCmpFunc_Sint_6 : Code := ((loopsOf C_slices_partitionCmpFunc_Sint).find? fun p => Nat.beq p.1 6).elim .skip (·.2)
theorem l_slices_partitionCmpFunc_Sint_6 : (DL_slices_partitionCmpFunc_Sint_6).OK E_slices_partitionCmpFunc_Sint tt Z_slices_partitionCmpFunc_Sint (orcOf O_slices_partitionCmpFunc_Sint) B_slices_partitionCmpFunc_Sint_6 where
  ok := by kernel_rfl
  oke := by kernel_rfl
  okr := by kernel_rfl
  eta := fun _ => rfl
  step := fun _ _ => by kernel_rfl
noncomputable def B_slices_partitionCmpFunc_Sint_8 : Code := ((loopsOf C_slices_partitionCmpFunc_Sint).find? fun p => Nat.beq p.1 8).elim .skip (·.2)
theorem l_slices_partitionCmpFunc_Sint_8 : (DL_slices_partitionCmpFunc_Sint_8).OK E_slices_partitionCmpFunc_Sint tt Z_slices_partitionCmpFunc_Sint (orcOf O_slices_partitionCmpFunc_Sint) B_slices_partitionCmpFunc_Sint_8 where
  ok := by kernel_rfl
  oke := by kernel_rfl
  okr := by kernel_rfl
  eta := fun _ => rfl
  step := fun _ _ => by kernel_rfl
noncomputable def B_slices_partitionCmpFunc_Sint_4 : Code := ((loopsOf C_slices_partitionCmpFunc_Sint).find? fun p => Nat.beq p.1 4).elim .skip (·.2)
theorem l_slices_partitionCmpFunc_Sint_4 : (DL_slices_partitionCmpFunc_Sint_4).OK E_slices_partitionCmpFunc_Sint tt Z_slices_partitionCmpFunc_Sint (orcOf O_slices_partitionCmpFunc_Sint) B_slices_partitionCmpFunc_Sint_4 where
  ok := by kernel_rfl
  oke := by kernel_rfl
  okr := by kernel_rfl
  eta := fun _ => rfl
  step := fun _ _ => by kernel_rfl
theorem o_slices_partitionCmpFunc_Sint : LoopsOK E_slices_partitionCmpFunc_Sint tt Z_slices_partitionCmpFunc_Sint O_slices_partitionCmpFunc_Sint C_slices_partitionCmpFunc_Sint := by
  have h : loopsOf C_slices_partitionCmpFunc_Sint = [(0, B_slices_partitionCmpFunc_Sint_0), (2, B_slices_partitionCmpFunc_Sint_2), (4, B_slices_partitionCmpFunc_Sint_4), (6, B_slices_partitionCmpFunc_Sint_6), (8, B_slices_partitionCmpFunc_Sint_8)] := by kernel_rfl
  unfold LoopsOK
  rw [h]
  exact List.forall_mem_cons.2 ⟨fun d h => (by have e : some (DL_slices_partitionCmpFunc_Sint_0) = some d := h; cases e; exact l_slices_partitionCmpFunc_Sint_0), List.forall_mem_cons.2 ⟨fun d h => (by have e : some (DL_slices_partitionCmpFunc_Sint_2) = some d := h; cases e; exact l_slices_partitionCmpFunc_Sint_2), List.forall_mem_cons.2 ⟨fun d h => (by have e : some (DL_slices_partitionCmpFunc_Sint_4) = some d := h; cases e; exact l_slices_partitionCmpFunc_Sint_4), List.forall_mem_cons.2 ⟨fun d h => (by have e : some (DL_slices_partitionCmpFunc_Sint_6) = some d := h; cases e; exact l_slices_partitionCmpFunc_Sint_6), List.forall_mem_cons.2 ⟨fun d h => (by have e : some (DL_slices_partitionCmpFunc_Sint_8) = some d := h; cases e; exact l_slices_partitionCmpFunc_Sint_8), fun _ h => absurd h List.not_mem_nil⟩⟩⟩⟩⟩
theorem ok_slices_partitionCmpFunc_Sint : FnOK prog E_slices_partitionCmpFunc_Sint tt 212 D_slices_partitionCmpFunc_Sint K_slices_partitionCmpFunc_Sint Z_slices_partitionCmpFunc_Sint O_slices_partitionCmpFunc_Sint f212 C_slices_partitionCmpFunc_Sint (fun x => T_slices_partitionCmpFunc_Sint x.1.2.1 x.1.2.2.1 x.1.2.2.2.1 x.1.2.2.2.2.1 x.2.1) (fun r => ((r.1, (r.2.1, ())), (r.2.2, ()))) where
  at_ := func212
  name := by kernel_rfl
  body := by kernel_rfl
  res := by kernel_rfl
  ok := by kernel_rfl
  arity := fun _ => Nat.le_of_ble_eq_true (by kernel_rfl)
  pin := fun _ => by kernel_rfl
  chk := by kernel_rfl
  loops := o_slices_partitionCmpFunc_Sint
  run := e_slices_partitionCmpFunc_Sint
  F := fun _ => rfl
  emb := fun _ => rfl
theorem fd_slices_partitionCmpFunc_Sint : FDok prog (212, D_slices_partitionCmpFunc_Sint) := fn_ok mixed (env_ok (fun _ h => absurd h List.not_mem_nil)) tabOK ok_slices_partitionCmpFunc_Sint
theorem e_slices_pdqsortCmpFunc_Sint (rec_ : (Int) → (Int) → (Int) → ((HL [(.slice (.int .i64)), (.slice (.int .i64))] → Option (Int))) → (List (List (Int))) → Option (List (List (Int)))) : ∀ x : (Dr_slices_pdqsortCmpFunc_Sint rec_).T, ((acode (E_slices_pdqsortCmpFunc_Sint rec_) tt Z_slices_pdqsortCmpFunc_Sint (orcOf (O_slices_pdqsortCmpFunc_Sint rec_)) C_slices_pdqsortCmpFunc_Sint (entry A_slices_pdqsortCmpFunc_Sint I_slices_pdqsortCmpFunc_Sint x)).map (keepRet tt K_slices_pdqsortCmpFunc_Sint)).ev = ((T_slices_pdqsortCmpFunc_Sint rec_ x.1.2.1 x.1.2.2.1 x.1.2.2.2.1 x.1.2.2.2.2.1 x.2.1).map fun r => some ((((), (r, ()))) : K_slices_pdqsortCmpFunc_Sint.T)).ev := fun _ => by kernel_rfl
noncomputable def B_slices_pdqsortCmpFunc_Sint_0 : Code := ((loopsOf C_slices_pdqsortCmpFunc_Sint).find? fun p => Nat.beq p.1 0).elim .skip (·.2)
theorem l_slices_pdqsortCmpFunc_Sint_0 (rec_ : (Int) → (Int) → (Int) → ((HL [(.slice (.int .i64)), (.slice (.int .i64))] → Option (Int))) → (List (List (Int))) → Option (List (List (Int)))) : (DL_slices_pdqsortCmpFunc_Sint_0 rec_).OK (E_slices_pdqsortCmpFunc_Sint rec_) tt Z_slices_pdqsortCmpFunc_Sint (orcOf (O_slices_pdqsortCmpFunc_Sint rec_)) B_slices_pdqsortCmpFunc_Sint_0 where
  ok := by kernel_rfl
  oke := by kernel_rfl
  okr := by kernel_rfl
  eta := fun _ => rfl
  step := fun _ _ => by kernel_rfl
theorem o_slices_pdqsortCmpFunc_Sint (rec_ : (Int) → (Int) → (Int) → ((HL [(.slice (.int .i64)), (.slice (.int .i64))] → Option (Int))) → (List (List (Int))) → Option (List (List (Int)))) : LoopsOK (E_slices_pdqsortCmpFunc_Sint rec_) tt Z_slices_pdqsortCmpFunc_Sint (O_slices_pdqsortCmpFunc_Sint rec_) C_slices_pdqsortCmpFunc_Sint := by
  have h : loopsOf C_slices_pdqsortCmpFunc_Sint = [(0, B_slices_pdqsortCmpFunc_Sint_0)] := by kernel_rfl
  unfold LoopsOK
  rw [h]
  exact List.forall_mem_cons.2 ⟨fun d h => (by have e : some (DL_slices_pdqsortCmpFunc_Sint_0 rec_) = some d := h; cases e; exact l_slices_pdqsortCmpFunc_Sint_0 rec_), fun _ h => absurd h List.not_mem_nil⟩
theorem ok_slices_pdqsortCmpFunc_Sint (n : Nat) : FnOK prog (E_slices_pdqsortCmpFunc_Sint (F_slices_pdqsortCmpFunc_Sint n)) tt 187 (D_slices_pdqsortCmpFunc_Sint (n + 1)) K_slices_pdqsortCmpFunc_Sint Z_slices_pdqsortCmpFunc_Sint (O_slices_pdqsortCmpFunc_Sint (F_slices_pdqsortCmpFunc_Sint n)) f187 C_slices_pdqsortCmpFunc_Sint (fun x => T_slices_pdqsortCmpFunc_Sint (F_slices_pdqsortCmpFunc_Sint n) x.1.2.1 x.1.2.2.1 x.1.2.2.2.1 x.1.2.2.2.2.1 x.2.1) (fun r => ((), (r, ()))) where
  at_ := func187
  name := by kernel_rfl
  body := by kernel_rfl
  res := by kernel_rfl
  ok := by kernel_rfl
  arity := fun _ => Nat.le_of_ble_eq_true (by kernel_rfl)
  pin := fun _ => by kernel_rfl
  chk := by kernel_rfl
  loops := o_slices_pdqsortCmpFunc_Sint (F_slices_pdqsortCmpFunc_Sint n)
  run := e_slices_pdqsortCmpFunc_Sint (F_slices_pdqsortCmpFunc_Sint n)
  F := fun _ => rfl
  emb := fun _ => rfl
theorem fd_slices_pdqsortCmpFunc_Sint : ∀ n : Nat, FDok prog (187, D_slices_pdqsortCmpFunc_Sint n)
  | 0 => fun _ _ h => nomatch h
  | n + 1 => fn_ok mixed (env_ok (List.forall_mem_cons.2 ⟨fd_slices_insertionSortCmpFunc_Sint, List.forall_mem_cons.2 ⟨fd_slices_choosePivotCmpFunc_Sint, List.forall_mem_cons.2 ⟨fd_slices_partitionCmpFunc_Sint, List.forall_mem_cons.2 ⟨fd_slices_pdqsortCmpFunc_Sint n, fun _ h => absurd h List.not_mem_nil⟩⟩⟩⟩)) tabOK (ok_slices_pdqsortCmpFunc_Sint n)
theorem e_slices_SortFunc_SSint_Sint : ∀ x : D_slices_SortFunc_SSint_Sint.T, ((acode E_slices_SortFunc_SSint_Sint tt Z_slices_SortFunc_SSint_Sint (orcOf O_slices_SortFunc_SSint_Sint) C_slices_SortFunc_SSint_Sint (entry A_slices_SortFunc_SSint_Sint I_slices_SortFunc_SSint_Sint x)).map (keepRet tt K_slices_SortFunc_SSint_Sint)).ev = ((T_slices_SortFunc_SSint_Sint x.1.2.1 x.2.1).map fun r => some ((((), (r, ()))) : K_slices_SortFunc_SSint_Sint.T)).ev := fun _ => by kernel_rfl
theorem o_slices_SortFunc_SSint_Sint : LoopsOK E_slices_SortFunc_SSint_Sint tt Z_slices_SortFunc_SSint_Sint O_slices_SortFunc_SSint_Sint C_slices_SortFunc_SSint_Sint := by
  have h : loopsOf C_slices_SortFunc_SSint_Sint = [] := by kernel_rfl
  unfold LoopsOK
  rw [h]
  exact fun _ h => absurd h List.not_mem_nil
theorem ok_slices_SortFunc_SSint_Sint : FnOK prog E_slices_SortFunc_SSint_Sint tt 168 D_slices_SortFunc_SSint_Sint K_slices_SortFunc_SSint_Sint Z_slices_SortFunc_SSint_Sint O_slices_SortFunc_SSint_Sint f168 C_slices_SortFunc_SSint_Sint (fun x => T_slices_SortFunc_SSint_Sint x.1.2.1 x.2.1) (fun r => ((), (r, ()))) where
  at_ := func168
  name := by kernel_rfl
  body := by kernel_rfl
  res := by kernel_rfl
  ok := by kernel_rfl
  arity := fun _ => Nat.le_of_ble_eq_true (by kernel_rfl)
  pin := fun _ => by kernel_rfl
  chk := by kernel_rfl
  loops := o_slices_SortFunc_SSint_Sint
  run := e_slices_SortFunc_SSint_Sint
  F := fun _ => rfl
  emb := fun _ => rfl
theorem fd_slices_SortFunc_SSint_Sint : FDok prog (168, D_slices_SortFunc_SSint_Sint) := fn_ok mixed (env_ok (List.forall_mem_cons.2 ⟨fd_math_bits_Len, List.forall_mem_cons.2 ⟨fd_slices_pdqsortCmpFunc_Sint 1000000, fun _ h => absurd h List.not_mem_nil⟩⟩)) tabOK ok_slices_SortFunc_SSint_Sint
theorem e_cmp_isNaN_int : ∀ x : D_cmp_isNaN_int.T, ((acode E_cmp_isNaN_int tt Z_cmp_isNaN_int (orcOf O_cmp_isNaN_int) C_cmp_isNaN_int (entry A_cmp_isNaN_int I_cmp_isNaN_int x)).map (keepRet tt K_cmp_isNaN_int)).ev = ((T_cmp_isNaN_int x.1.1).map fun r => some ((((r, ()), ())) : K_cmp_isNaN_int.T)).ev := fun _ => by kernel_rfl
theorem o_cmp_isNaN_int : LoopsOK E_cmp_isNaN_int tt Z_cmp_isNaN_int O_cmp_isNaN_int C_cmp_isNaN_int := by
  have h : loopsOf C_cmp_isNaN_int = [] := by kernel_rfl
  unfold LoopsOK
  rw [h]
  exact fun _ h => absurd h List.not_mem_nil
theorem ok_cmp_isNaN_int : FnOK prog E_cmp_isNaN_int tt 213 D_cmp_isNaN_int K_cmp_isNaN_int Z_cmp_isNaN_int O_cmp_isNaN_int f213 C_cmp_isNaN_int (fun x => T_cmp_isNaN_int x.1.1) (fun r => ((r, ()), ())) where
  at_ := func213
  name := by kernel_rfl
  body := by kernel_rfl
  res := by kernel_rfl
  ok := by kernel_rfl
  arity := fun _ => Nat.le_of_ble_eq_true (by kernel_rfl)
  pin := fun _ => by kernel_rfl
  chk := by kernel_rfl
  loops := o_cmp_isNaN_int
  run := e_cmp_isNaN_int
  F := fun _ => rfl
  emb := fun _ => rfl
theorem fd_cmp_isNaN_int : FDok prog (213, D_cmp_isNaN_int) := fn_ok mixed (env_ok (fun _ h => absurd h List.not_mem_nil)) tabOK ok_cmp_isNaN_int
theorem e_cmp_Compare_int : ∀ x : D_cmp_Compare_int.T, ((acode E_cmp_Compare_int tt Z_cmp_Compare_int (orcOf O_cmp_Compare_int) C_cmp_Compare_int (entry A_cmp_Compare_int I_cmp_Compare_int x)).map (keepRet tt K_cmp_Compare_int)).ev = ((T_cmp_Compare_int x.1.1 x.1.2.1).map fun r => some ((((r, ()), ())) : K_cmp_Compare_int.T)).ev := fun _ => by kernel_rfl
theorem o_cmp_Compare_int : LoopsOK E_cmp_Compare_int tt Z_cmp_Compare_int O_cmp_Compare_int C_cmp_Compare_int := by
  have h : loopsOf C_cmp_Compare_int = [] := by kernel_rfl
  unfold LoopsOK
  rw [h]
  exact fun _ h => absurd h List.not_mem_nil
theorem ok_cmp_Compare_int : FnOK prog E_cmp_Compare_int tt 189 D_cmp_Compare_int K_cmp_Compare_int Z_cmp_Compare_int O_cmp_Compare_int f189 C_cmp_Compare_int (fun x => T_cmp_Compare_int x.1.1 x.1.2.1) (fun r => ((r, ()), ())) where
  at_ := func189
  name := by kernel_rfl
  body := by kernel_rfl
  res := by kernel_rfl
  ok := by kernel_rfl
  arity := fun _ => Nat.le_of_ble_eq_true (by kernel_rfl)
  pin := fun _ => by kernel_rfl
  chk := by kernel_rfl
  loops := o_cmp_Compare_int
  run := e_cmp_Compare_int
  F := fun _ => rfl
  emb := fun _ => rfl
theorem fd_cmp_Compare_int : FDok prog (189, D_cmp_Compare_int) := fn_ok mixed (env_ok (List.forall_mem_cons.2 ⟨fd_cmp_isNaN_int, fun _ h => absurd h List.not_mem_nil⟩)) tabOK ok_cmp_Compare_int
theorem e_slices_Compare_Sint_int : ∀ x : D_slices_Compare_Sint_int.T, ((acode E_slices_Compare_Sint_int tt Z_slices_Compare_Sint_int (orcOf O_slices_Compare_Sint_int) C_slices_Compare_Sint_int (entry A_slices_Compare_Sint_int I_slices_Compare_Sint_int x)).map (keepRet tt K_slices_Compare_Sint_int)).ev = ((T_slices_Compare_Sint_int x.1.1 x.1.2.1).map fun r => some ((((r, ()), ())) : K_slices_Compare_Sint_int.T)).ev := fun _ => by kernel_rfl
noncomputable def B_slices_Compare_Sint_int_0 : Code := ((loopsOf C_slices_Compare_Sint_int).find? fun p => Nat.beq p.1 0).elim .skip (·.2)
theorem l_slices_Compare_Sint_int_0 : (DL_slices_Compare_Sint_int_0).OK E_slices_Compare_Sint_int tt Z_slices_Compare_Sint_int (orcOf O_slices_Compare_Sint_int) B_slices_Compare_Sint_int_0 where
  ok := by kernel_rfl
  oke := by kernel_rfl
  okr := by kernel_rfl
  eta := fun _ => rfl
  step := fun _ _ => by kernel_rfl
theorem o_slices_Compare_Sint_int : LoopsOK E_slices_Compare_Sint_int tt Z_slices_Compare_Sint_int O_slices_Compare_Sint_int C_slices_Compare_Sint_int := by
  have h : loopsOf C_slices_Compare_Sint_int = [(0, B_slices_Compare_Sint_int_0)] := by kernel_rfl
  unfold LoopsOK
  rw [h]
  exact List.forall_mem_cons.2 ⟨fun d h => (by have e : some (DL_slices_Compare_Sint_int_0) = some d := h; cases e; exact l_slices_Compare_Sint_int_0), fun _ h => absurd h List.not_mem_nil⟩
theorem ok_slices_Compare_Sint_int : FnOK prog E_slices_Compare_Sint_int tt 190 D_slices_Compare_Sint_int K_slices_Compare_Sint_int Z_slices_Compare_Sint_int O_slices_Compare_Sint_int f190 C_slices_Compare_Sint_int (fun x => T_slices_Compare_Sint_int x.1.1 x.1.2.1) (fun r => ((r, ()), ())) where
  at_ := func190
  name := by kernel_rfl
  body := by kernel_rfl
  res := by kernel_rfl
  ok := by kernel_rfl
  arity := fun _ => Nat.le_of_ble_eq_true (by kernel_rfl)
  pin := fun _ => by kernel_rfl
  chk := by kernel_rfl
  loops := o_slices_Compare_Sint_int
  run := e_slices_Compare_Sint_int
  F := fun _ => rfl
  emb := fun _ => rfl
theorem fd_slices_Compare_Sint_int : FDok prog (190, D_slices_Compare_Sint_int) := fn_ok mixed (env_ok (List.forall_mem_cons.2 ⟨fd_cmp_Compare_int, fun _ h => absurd h List.not_mem_nil⟩)) tabOK ok_slices_Compare_Sint_int
theorem e_cmp_Or_int : ∀ x : D_cmp_Or_int.T, ((acode E_cmp_Or_int tt Z_cmp_Or_int (orcOf O_cmp_Or_int) C_cmp_Or_int (entry A_cmp_Or_int I_cmp_Or_int x)).map (keepRet tt K_cmp_Or_int)).ev = ((T_cmp_Or_int x.1.1).map fun r => some ((((r, ()), ())) : K_cmp_Or_int.T)).ev := fun _ => by kernel_rfl
noncomputable def B_cmp_Or_int_0 : Code := ((loopsOf C_cmp_Or_int).find? fun p => Nat.beq p.1 0).elim .skip (·.2)
theorem l_cmp_Or_int_0 : (DL_cmp_Or_int_0).OK E_cmp_Or_int tt Z_cmp_Or_int (orcOf O_cmp_Or_int) B_cmp_Or_int_0 where
  ok := by kernel_rfl
  oke := by kernel_rfl
  okr := by kernel_rfl
  eta := fun _ => rfl
  step := fun _ _ => by kernel_rfl
theorem o_cmp_Or_int : LoopsOK E_cmp_Or_int tt Z_cmp_Or_int O_cmp_Or_int C_cmp_Or_int := by
  have h : loopsOf C_cmp_Or_int = [(0, B_cmp_Or_int_0)] := by kernel_rfl
  unfold LoopsOK
  rw [h]
  exact List.forall_mem_cons.2 ⟨fun d h => (by have e : some (DL_cmp_Or_int_0) = some d := h; cases e; exact l_cmp_Or_int_0), fun _ h => absurd h List.not_mem_nil⟩
theorem ok_cmp_Or_int : FnOK prog E_cmp_Or_int tt 188 D_cmp_Or_int K_cmp_Or_int Z_cmp_Or_int O_cmp_Or_int f188 C_cmp_Or_int (fun x => T_cmp_Or_int x.1.1) (fun r => ((r, ()), ())) where
  at_ := func188
  name := by kernel_rfl
  body := by kernel_rfl
  res := by kernel_rfl
  ok := by kernel_rfl
  arity := fun _ => Nat.le_of_ble_eq_true (by kernel_rfl)
  pin := fun _ => by kernel_rfl
  chk := by kernel_rfl
  loops := o_cmp_Or_int
  run := e_cmp_Or_int
  F := fun _ => rfl
  emb := fun _ => rfl
theorem fd_cmp_Or_int : FDok prog (188, D_cmp_Or_int) := fn_ok mixed (env_ok (fun _ h => absurd h List.not_mem_nil)) tabOK ok_cmp_Or_int
theorem e_im_compareSets : ∀ x : D_im_compareSets.T, ((acode E_im_compareSets tt Z_im_compareSets (orcOf O_im_compareSets) C_im_compareSets (entry A_im_compareSets I_im_compareSets x)).map (keepRet tt K_im_compareSets)).ev = ((T_im_compareSets x.1.1 x.1.2.1).map fun r => some ((((r, ()), ())) : K_im_compareSets.T)).ev := fun _ => by kernel_rfl
theorem o_im_compareSets : LoopsOK E_im_compareSets tt Z_im_compareSets O_im_compareSets C_im_compareSets := by
  have h : loopsOf C_im_compareSets = [] := by kernel_rfl
  unfold LoopsOK
  rw [h]
  exact fun _ h => absurd h List.not_mem_nil
theorem ok_im_compareSets : FnOK prog E_im_compareSets tt 169 D_im_compareSets K_im_compareSets Z_im_compareSets O_im_compareSets f169 C_im_compareSets (fun x => T_im_compareSets x.1.1 x.1.2.1) (fun r => ((r, ()), ())) where
  at_ := func169
  name := by kernel_rfl
  body := by kernel_rfl
  res := by kernel_rfl
  ok := by kernel_rfl
  arity := fun _ => Nat.le_of_ble_eq_true (by kernel_rfl)
  pin := fun _ => by kernel_rfl
  chk := by kernel_rfl
  loops := o_im_compareSets
  run := e_im_compareSets
  F := fun _ => rfl
  emb := fun _ => rfl
theorem fd_im_compareSets : FDok prog (169, D_im_compareSets) := fn_ok mixed (env_ok (List.forall_mem_cons.2 ⟨fd_cmp_Compare_int, List.forall_mem_cons.2 ⟨fd_slices_Compare_Sint_int, List.forall_mem_cons.2 ⟨fd_cmp_Or_int, fun _ h => absurd h List.not_mem_nil⟩⟩⟩)) tabOK ok_im_compareSets
theorem e_im_sets : ∀ x : D_im_sets.T, ((acode E_im_sets tt Z_im_sets (orcOf O_im_sets) C_im_sets (entry A_im_sets I_im_sets x)).map (keepRet tt K_im_sets)).ev = ((T_im_sets x.1.1).map fun r => some (((((), ()), (r, ()))) : K_im_sets.T)).ev := fun _ => by kernel_rfl
noncomputable def B_im_sets_0 : Code := ((loopsOf C_im_sets).find? fun p => Nat.beq p.1 0).elim .skip (·.2)
theorem l_im_sets_0 : (DL_im_sets_0).OK E_im_sets tt Z_im_sets (orcOf O_im_sets) B_im_sets_0 where
  ok := by kernel_rfl
  oke := by kernel_rfl
  okr := by kernel_rfl
  eta := fun _ => rfl
  step := fun _ _ => by kernel_rfl
theorem o_im_sets : LoopsOK E_im_sets tt Z_im_sets O_im_sets C_im_sets := by
  have h : loopsOf C_im_sets = [(0, B_im_sets_0)] := by kernel_rfl
  unfold LoopsOK
  rw [h]
  exact List.forall_mem_cons.2 ⟨fun d h => (by have e : some (DL_im_sets_0) = some d := h; cases e; exact l_im_sets_0), fun _ h => absurd h List.not_mem_nil⟩
theorem ok_im_sets : FnOK prog E_im_sets tt 118 D_im_sets K_im_sets Z_im_sets O_im_sets f118 C_im_sets (fun x => T_im_sets x.1.1) (fun r => (((), ()), (r, ()))) where
  at_ := func118
  name := by kernel_rfl
  body := by kernel_rfl
  res := by kernel_rfl
  ok := by kernel_rfl
  arity := fun _ => Nat.le_of_ble_eq_true (by kernel_rfl)
  pin := fun _ => by kernel_rfl
  chk := by kernel_rfl
  loops := o_im_sets
  run := e_im_sets
  F := fun _ => rfl
  emb := fun _ => rfl
theorem fd_im_sets : FDok prog (118, D_im_sets) := fn_ok mixed (env_ok (List.forall_mem_cons.2 ⟨fd_im_bag_list, List.forall_mem_cons.2 ⟨fd_slices_SortFunc_SSint_Sint, List.forall_mem_cons.2 ⟨fd_slices_SortFunc_SSint_Sint, List.forall_mem_cons.2 ⟨fd_im_compareSets, fun _ h => absurd h List.not_mem_nil⟩⟩⟩⟩)) tabOK ok_im_sets
theorem e_im_lists : ∀ x : D_im_lists.T, ((acode E_im_lists tt Z_im_lists (orcOf O_im_lists) C_im_lists (entry A_im_lists I_im_lists x)).map (keepRet tt K_im_lists)).ev = ((T_im_lists x.1.1 x.1.2.1).map fun r => some (((((), ()), (r, ()))) : K_im_lists.T)).ev := fun _ => by kernel_rfl
noncomputable def B_im_lists_0 : Code := ((loopsOf C_im_lists).find? fun p => Nat.beq p.1 0).elim .skip (·.2)
theorem l_im_lists_0 : (DL_im_lists_0).OK E_im_lists tt Z_im_lists (orcOf O_im_lists) B_im_lists_0 where
  ok := by kernel_rfl
  oke := by kernel_rfl
  okr := by kernel_rfl
  eta := fun _ => rfl
  step := fun _ _ => by kernel_rfl
theorem o_im_lists : LoopsOK E_im_lists tt Z_im_lists O_im_lists C_im_lists := by
  have h : loopsOf C_im_lists = [(0, B_im_lists_0)] := by kernel_rfl
  unfold LoopsOK
  rw [h]
  exact List.forall_mem_cons.2 ⟨fun d h => (by have e : some (DL_im_lists_0) = some d := h; cases e; exact l_im_lists_0), fun _ h => absurd h List.not_mem_nil⟩
theorem ok_im_lists : FnOK prog E_im_lists tt 94 D_im_lists K_im_lists Z_im_lists O_im_lists f94 C_im_lists (fun x => T_im_lists x.1.1 x.1.2.1) (fun r => (((), ()), (r, ()))) where
  at_ := func94
  name := by kernel_rfl
  body := by kernel_rfl
  res := by kernel_rfl
  ok := by kernel_rfl
  arity := fun _ => Nat.le_of_ble_eq_true (by kernel_rfl)
  pin := fun _ => by kernel_rfl
  chk := by kernel_rfl
  loops := o_im_lists
  run := e_im_lists
  F := fun _ => rfl
  emb := fun _ => rfl
theorem fd_im_lists : FDok prog (94, D_im_lists) := fn_ok mixed (env_ok (List.forall_mem_cons.2 ⟨fd_im_sets, fun _ h => absurd h List.not_mem_nil⟩)) tabOK ok_im_lists
theorem e_im_isRising : ∀ x : D_im_isRising.T, ((acode E_im_isRising tt Z_im_isRising (orcOf O_im_isRising) C_im_isRising (entry A_im_isRising I_im_isRising x)).map (keepRet tt K_im_isRising)).ev = ((T_im_isRising x.1.1 x.1.2.1).map fun r => some ((((r, ()), ())) : K_im_isRising.T)).ev := fun _ => by kernel_rfl
noncomputable def B_im_isRising_0 : Code := ((loopsOf C_im_isRising).find? fun p => Nat.beq p.1 0).elim .skip (·.2)
theorem l_im_isRising_0 : (DL_im_isRising_0).OK E_im_isRising tt Z_im_isRising (orcOf O_im_isRising) B_im_isRising_0 where
  ok := by kernel_rfl
  oke := by kernel_rfl
  okr := by kernel_rfl
  eta := fun _ => rfl
  step := fun _ _ => by kernel_rfl
theorem o_im_isRising : LoopsOK E_im_isRising tt Z_im_isRising O_im_isRising C_im_isRising := by
  have h : loopsOf C_im_isRising = [(0, B_im_isRising_0)] := by kernel_rfl
  unfold LoopsOK
  rw [h]
  exact List.forall_mem_cons.2 ⟨fun d h => (by have e : some (DL_im_isRising_0) = some d := h; cases e; exact l_im_isRising_0), fun _ h => absurd h List.not_mem_nil⟩
theorem ok_im_isRising : FnOK prog E_im_isRising tt 131 D_im_isRising K_im_isRising Z_im_isRising O_im_isRising f131 C_im_isRising (fun x => T_im_isRising x.1.1 x.1.2.1) (fun r => ((r, ()), ())) where
  at_ := func131
  name := by kernel_rfl
  body := by kernel_rfl
  res := by kernel_rfl
  ok := by kernel_rfl
  arity := fun _ => Nat.le_of_ble_eq_true (by kernel_rfl)
  pin := fun _ => by kernel_rfl
  chk := by kernel_rfl
  loops := o_im_isRising
  run := e_im_isRising
  F := fun _ => rfl
  emb := fun _ => rfl
theorem fd_im_isRising : FDok prog (131, D_im_isRising) := fn_ok mixed (env_ok (List.forall_mem_cons.2 ⟨fd_im_between, fun _ h => absurd h List.not_mem_nil⟩)) tabOK ok_im_isRising
theorem e_im_Season_isPossible : ∀ x : D_im_Season_isPossible.T, ((acode E_im_Season_isPossible tt Z_im_Season_isPossible (orcOf O_im_Season_isPossible) C_im_Season_isPossible (entry A_im_Season_isPossible I_im_Season_isPossible x)).map (keepRet tt K_im_Season_isPossible)).ev = ((T_im_Season_isPossible x.1.1.1 x.1.1.2.1 x.1.1.2.2.1 x.1.1.2.2.2.1 x.1.2.1 x.1.2.2.1).map fun r => some ((((r, ()), ())) : K_im_Season_isPossible.T)).ev := fun _ => by kernel_rfl
theorem o_im_Season_isPossible : LoopsOK E_im_Season_isPossible tt Z_im_Season_isPossible O_im_Season_isPossible C_im_Season_isPossible := by
  have h : loopsOf C_im_Season_isPossible = [] := by kernel_rfl
  unfold LoopsOK
  rw [h]
  exact fun _ h => absurd h List.not_mem_nil
theorem ok_im_Season_isPossible : FnOK prog E_im_Season_isPossible tt 151 D_im_Season_isPossible K_im_Season_isPossible Z_im_Season_isPossible O_im_Season_isPossible f151 C_im_Season_isPossible (fun x => T_im_Season_isPossible x.1.1.1 x.1.1.2.1 x.1.1.2.2.1 x.1.1.2.2.2.1 x.1.2.1 x.1.2.2.1) (fun r => ((r, ()), ())) where
  at_ := func151
  name := by kernel_rfl
  body := by kernel_rfl
  res := by kernel_rfl
  ok := by kernel_rfl
  arity := fun _ => Nat.le_of_ble_eq_true (by kernel_rfl)
  pin := fun _ => by kernel_rfl
  chk := by kernel_rfl
  loops := o_im_Season_isPossible
  run := e_im_Season_isPossible
  F := fun _ => rfl
  emb := fun _ => rfl
theorem fd_im_Season_isPossible : FDok prog (151, D_im_Season_isPossible) := fn_ok mixed (env_ok (List.forall_mem_cons.2 ⟨fd_im_isRising, fun _ h => absurd h List.not_mem_nil⟩)) tabOK ok_im_Season_isPossible
theorem e_im_Season_isPlan : ∀ x : D_im_Season_isPlan.T, ((acode E_im_Season_isPlan tt Z_im_Season_isPlan (orcOf O_im_Season_isPlan) C_im_Season_isPlan (entry A_im_Season_isPlan I_im_Season_isPlan x)).map (keepRet tt K_im_Season_isPlan)).ev = ((T_im_Season_isPlan x.1.1.1 x.1.1.2.1 x.1.1.2.2.1 x.1.1.2.2.2.1 x.1.2.1).map fun r => some ((((r, ()), ())) : K_im_Season_isPlan.T)).ev := fun _ => by kernel_rfl
noncomputable def B_im_Season_isPlan_0 : Code := ((loopsOf C_im_Season_isPlan).find? fun p => Nat.beq p.1 0).elim .skip (·.2)
theorem l_im_Season_isPlan_0 : (DL_im_Season_isPlan_0).OK E_im_Season_isPlan tt Z_im_Season_isPlan (orcOf O_im_Season_isPlan) B_im_Season_isPlan_0 where
  ok := by kernel_rfl
  oke := by kernel_rfl
  okr := by kernel_rfl
  eta := fun _ => rfl
  step := fun _ _ => by kernel_rfl
theorem o_im_Season_isPlan : LoopsOK E_im_Season_isPlan tt Z_im_Season_isPlan O_im_Season_isPlan C_im_Season_isPlan := by
  have h : loopsOf C_im_Season_isPlan = [(0, B_im_Season_isPlan_0)] := by kernel_rfl
  unfold LoopsOK
  rw [h]
  exact List.forall_mem_cons.2 ⟨fun d h => (by have e : some (DL_im_Season_isPlan_0) = some d := h; cases e; exact l_im_Season_isPlan_0), fun _ h => absurd h List.not_mem_nil⟩
theorem ok_im_Season_isPlan : FnOK prog E_im_Season_isPlan tt 96 D_im_Season_isPlan K_im_Season_isPlan Z_im_Season_isPlan O_im_Season_isPlan f96 C_im_Season_isPlan (fun x => T_im_Season_isPlan x.1.1.1 x.1.1.2.1 x.1.1.2.2.1 x.1.1.2.2.2.1 x.1.2.1) (fun r => ((r, ()), ())) where
  at_ := func96
  name := by kernel_rfl
  body := by kernel_rfl
  res := by kernel_rfl
  ok := by kernel_rfl
  arity := fun _ => Nat.le_of_ble_eq_true (by kernel_rfl)
  pin := fun _ => by kernel_rfl
  chk := by kernel_rfl
  loops := o_im_Season_isPlan
  run := e_im_Season_isPlan
  F := fun _ => rfl
  emb := fun _ => rfl
theorem fd_im_Season_isPlan : FDok prog (96, D_im_Season_isPlan) := fn_ok mixed (env_ok (List.forall_mem_cons.2 ⟨fd_im_Season_isPossible, fun _ h => absurd h List.not_mem_nil⟩)) tabOK ok_im_Season_isPlan
theorem e_im_StaticPlan_2 : ∀ x : D_im_StaticPlan_2.T, ((acode E_im_StaticPlan_2 tt Z_im_StaticPlan_2 (orcOf O_im_StaticPlan_2) C_im_StaticPlan_2 (entry A_im_StaticPlan_2 I_im_StaticPlan_2 x)).map (keepRet tt K_im_StaticPlan_2)).ev = ((T_im_StaticPlan_2 x.1.1 x.1.2.1.1 x.1.2.1.2.1 x.1.2.1.2.2.1 x.1.2.1.2.2.2.1 x.1.2.2.1.1).map fun r => some ((((r, ()), ())) : K_im_StaticPlan_2.T)).ev := fun _ => by kernel_rfl
theorem o_im_StaticPlan_2 : LoopsOK E_im_StaticPlan_2 tt Z_im_StaticPlan_2 O_im_StaticPlan_2 C_im_StaticPlan_2 := by
  have h : loopsOf C_im_StaticPlan_2 = [] := by kernel_rfl
  unfold LoopsOK
  rw [h]
  exact fun _ h => absurd h List.not_mem_nil
theorem ok_im_StaticPlan_2 : FnOK prog E_im_StaticPlan_2 tt 95 D_im_StaticPlan_2 K_im_StaticPlan_2 Z_im_StaticPlan_2 O_im_StaticPlan_2 f95 C_im_StaticPlan_2 (fun x => T_im_StaticPlan_2 x.1.1 x.1.2.1.1 x.1.2.1.2.1 x.1.2.1.2.2.1 x.1.2.1.2.2.2.1 x.1.2.2.1.1) (fun r => ((r, ()), ())) where
  at_ := func95
  name := by kernel_rfl
  body := by kernel_rfl
  res := by kernel_rfl
  ok := by kernel_rfl
  arity := fun _ => Nat.le_of_ble_eq_true (by kernel_rfl)
  pin := fun _ => by kernel_rfl
  chk := by kernel_rfl
  loops := o_im_StaticPlan_2
  run := e_im_StaticPlan_2
  F := fun _ => rfl
  emb := fun _ => rfl
theorem fd_im_StaticPlan_2 : FDok prog (95, D_im_StaticPlan_2) := fn_ok mixed (env_ok (List.forall_mem_cons.2 ⟨fd_im_Season_isPlan, fun _ h => absurd h List.not_mem_nil⟩)) tabOK ok_im_StaticPlan_2
theorem fd_slices_Clone_Sint_int : FDok prog (87, D_slices_Clone_Sint_int) := hand_clone
theorem e_im_StaticPlan_1 : ∀ x : D_im_StaticPlan_1.T, ((acode E_im_StaticPlan_1 tt Z_im_StaticPlan_1 (orcOf O_im_StaticPlan_1) C_im_StaticPlan_1 (entry A_im_StaticPlan_1 I_im_StaticPlan_1 x)).map (keepRet tt K_im_StaticPlan_1)).ev = ((T_im_StaticPlan_1 x.1.1 x.1.2.1.1 x.1.2.1.2.1 x.1.2.1.2.2.1 x.1.2.1.2.2.2.1).map fun r => some (((((), ()), (r, ()))) : K_im_StaticPlan_1.T)).ev := fun _ => by kernel_rfl
noncomputable def B_im_StaticPlan_1_0 : Code := ((loopsOf C_im_StaticPlan_1).find? fun p => Nat.beq p.1 0).elim .skip (·.2)
theorem l_im_StaticPlan_1_0 : (DL_im_StaticPlan_1_0).OK E_im_StaticPlan_1 tt Z_im_StaticPlan_1 (orcOf O_im_StaticPlan_1) B_im_StaticPlan_1_0 where
  ok := by kernel_rfl
  oke := by kernel_rfl
  okr := by kernel_rfl
  eta := fun _ => rfl
  step := fun _ _ => by kernel_rfl
theorem o_im_StaticPlan_1 : LoopsOK E_im_StaticPlan_1 tt Z_im_StaticPlan_1 O_im_StaticPlan_1 C_im_StaticPlan_1 := by
  have h : loopsOf C_im_StaticPlan_1 = [(0, B_im_StaticPlan_1_0)] := by kernel_rfl
  unfold LoopsOK
  rw [h]
  exact List.forall_mem_cons.2 ⟨fun d h => (by have e : some (DL_im_StaticPlan_1_0) = some d := h; cases e; exact l_im_StaticPlan_1_0), fun _ h => absurd h List.not_mem_nil⟩
theorem ok_im_StaticPlan_1 : FnOK prog E_im_StaticPlan_1 tt 93 D_im_StaticPlan_1 K_im_StaticPlan_1 Z_im_StaticPlan_1 O_im_StaticPlan_1 f93 C_im_StaticPlan_1 (fun x => T_im_StaticPlan_1 x.1.1 x.1.2.1.1 x.1.2.1.2.1 x.1.2.1.2.2.1 x.1.2.1.2.2.2.1) (fun r => (((), ()), (r, ()))) where
  at_ := func93
  name := by kernel_rfl
  body := by kernel_rfl
  res := by kernel_rfl
  ok := by kernel_rfl
  arity := fun _ => Nat.le_of_ble_eq_true (by kernel_rfl)
  pin := fun _ => by kernel_rfl
  chk := by kernel_rfl
  loops := o_im_StaticPlan_1
  run := e_im_StaticPlan_1
  F := fun _ => rfl
  emb := fun _ => rfl
theorem fd_im_StaticPlan_1 : FDok prog (93, D_im_StaticPlan_1) := fn_ok mixed (env_ok (List.forall_mem_cons.2 ⟨fd_slices_Clone_Sint_int, fun _ h => absurd h List.not_mem_nil⟩)) tabOK ok_im_StaticPlan_1
theorem e_im_least : ∀ x : D_im_least.T, ((acode E_im_least tt Z_im_least (orcOf O_im_least) C_im_least (entry A_im_least I_im_least x)).map (keepRet tt K_im_least)).ev = ((T_im_least x.1.1 x.1.2.1).map fun r => some ((((r, ()), ())) : K_im_least.T)).ev := fun _ => by kernel_rfl
noncomputable def B_im_least_0 : Code := ((loopsOf C_im_least).find? fun p => Nat.beq p.1 0).elim .skip (·.2)
theorem l_im_least_0 : (DL_im_least_0).OK E_im_least tt Z_im_least (orcOf O_im_least) B_im_least_0 where
  ok := by kernel_rfl
  oke := by kernel_rfl
  okr := by kernel_rfl
  eta := fun _ => rfl
  step := fun _ _ => by kernel_rfl
theorem o_im_least : LoopsOK E_im_least tt Z_im_least O_im_least C_im_least := by
  have h : loopsOf C_im_least = [(0, B_im_least_0)] := by kernel_rfl
  unfold LoopsOK
  rw [h]
  exact List.forall_mem_cons.2 ⟨fun d h => (by have e : some (DL_im_least_0) = some d := h; cases e; exact l_im_least_0), fun _ h => absurd h List.not_mem_nil⟩
theorem ok_im_least : FnOK prog E_im_least tt 83 D_im_least K_im_least Z_im_least O_im_least f83 C_im_least (fun x => T_im_least x.1.1 x.1.2.1) (fun r => ((r, ()), ())) where
  at_ := func83
  name := by kernel_rfl
  body := by kernel_rfl
  res := by kernel_rfl
  ok := by kernel_rfl
  arity := fun _ => Nat.le_of_ble_eq_true (by kernel_rfl)
  pin := fun _ => by kernel_rfl
  chk := by kernel_rfl
  loops := o_im_least
  run := e_im_least
  F := fun _ => rfl
  emb := fun _ => rfl
theorem fd_im_least : FDok prog (83, D_im_least) := fn_ok mixed (env_ok (fun _ h => absurd h List.not_mem_nil)) tabOK ok_im_least
theorem e_im_bagOf : ∀ x : D_im_bagOf.T, ((acode E_im_bagOf tt Z_im_bagOf (orcOf O_im_bagOf) C_im_bagOf (entry A_im_bagOf I_im_bagOf x)).map (keepRet tt K_im_bagOf)).ev = ((T_im_bagOf x.1.1).map fun r => some ((((r, ()), ())) : K_im_bagOf.T)).ev := fun _ => by kernel_rfl
noncomputable def B_im_bagOf_0 : Code := ((loopsOf C_im_bagOf).find? fun p => Nat.beq p.1 0).elim .skip (·.2)
theorem l_im_bagOf_0 : (DL_im_bagOf_0).OK E_im_bagOf tt Z_im_bagOf (orcOf O_im_bagOf) B_im_bagOf_0 where
  ok := by kernel_rfl
  oke := by kernel_rfl
  okr := by kernel_rfl
  eta := fun _ => rfl
  step := fun _ _ => by kernel_rfl
theorem o_im_bagOf : LoopsOK E_im_bagOf tt Z_im_bagOf O_im_bagOf C_im_bagOf := by
  have h : loopsOf C_im_bagOf = [(0, B_im_bagOf_0)] := by kernel_rfl
  unfold LoopsOK
  rw [h]
  exact List.forall_mem_cons.2 ⟨fun d h => (by have e : some (DL_im_bagOf_0) = some d := h; cases e; exact l_im_bagOf_0), fun _ h => absurd h List.not_mem_nil⟩
theorem ok_im_bagOf : FnOK prog E_im_bagOf tt 91 D_im_bagOf K_im_bagOf Z_im_bagOf O_im_bagOf f91 C_im_bagOf (fun x => T_im_bagOf x.1.1) (fun r => ((r, ()), ())) where
  at_ := func91
  name := by kernel_rfl
  body := by kernel_rfl
  res := by kernel_rfl
  ok := by kernel_rfl
  arity := fun _ => Nat.le_of_ble_eq_true (by kernel_rfl)
  pin := fun _ => by kernel_rfl
  chk := by kernel_rfl
  loops := o_im_bagOf
  run := e_im_bagOf
  F := fun _ => rfl
  emb := fun _ => rfl
theorem fd_im_bagOf : FDok prog (91, D_im_bagOf) := fn_ok mixed (env_ok (fun _ h => absurd h List.not_mem_nil)) tabOK ok_im_bagOf
theorem e_im_Field_server : ∀ x : D_im_Field_server.T, ((acode E_im_Field_server tt Z_im_Field_server (orcOf O_im_Field_server) C_im_Field_server (entry A_im_Field_server I_im_Field_server x)).map (keepRet tt K_im_Field_server)).ev = ((T_im_Field_server x.1.1.1 x.1.1.2.1 x.1.2.1 x.1.2.2.1).map fun r => some ((((r, ()), ())) : K_im_Field_server.T)).ev := fun _ => by kernel_rfl
noncomputable def B_im_Field_server_0 : Code := ((loopsOf C_im_Field_server).find? fun p => Nat.beq p.1 0).elim .skip (·.2)
theorem l_im_Field_server_0 : (DL_im_Field_server_0).OK E_im_Field_server tt Z_im_Field_server (orcOf O_im_Field_server) B_im_Field_server_0 where
  ok := by kernel_rfl
  oke := by kernel_rfl
  okr := by kernel_rfl
  eta := fun _ => rfl
  step := fun _ _ => by kernel_rfl
theorem o_im_Field_server : LoopsOK E_im_Field_server tt Z_im_Field_server O_im_Field_server C_im_Field_server := by
  have h : loopsOf C_im_Field_server = [(0, B_im_Field_server_0)] := by kernel_rfl
  unfold LoopsOK
  rw [h]
  exact List.forall_mem_cons.2 ⟨fun d h => (by have e : some (DL_im_Field_server_0) = some d := h; cases e; exact l_im_Field_server_0), fun _ h => absurd h List.not_mem_nil⟩
theorem ok_im_Field_server : FnOK prog E_im_Field_server tt 172 D_im_Field_server K_im_Field_server Z_im_Field_server O_im_Field_server f172 C_im_Field_server (fun x => T_im_Field_server x.1.1.1 x.1.1.2.1 x.1.2.1 x.1.2.2.1) (fun r => ((r, ()), ())) where
  at_ := func172
  name := by kernel_rfl
  body := by kernel_rfl
  res := by kernel_rfl
  ok := by kernel_rfl
  arity := fun _ => Nat.le_of_ble_eq_true (by kernel_rfl)
  pin := fun _ => by kernel_rfl
  chk := by kernel_rfl
  loops := o_im_Field_server
  run := e_im_Field_server
  F := fun _ => rfl
  emb := fun _ => rfl
theorem fd_im_Field_server : FDok prog (172, D_im_Field_server) := fn_ok mixed (env_ok (fun _ h => absurd h List.not_mem_nil)) tabOK ok_im_Field_server
theorem e_im_Field_served : ∀ x : D_im_Field_served.T, ((acode E_im_Field_served tt Z_im_Field_served (orcOf O_im_Field_served) C_im_Field_served (entry A_im_Field_served I_im_Field_served x)).map (keepRet tt K_im_Field_served)).ev = ((T_im_Field_served x.1.1.1 x.1.1.2.1 x.1.2.1).map fun r => some (((((), ()), (r, ()))) : K_im_Field_served.T)).ev := fun _ => by kernel_rfl
noncomputable def B_im_Field_served_0 : Code := ((loopsOf C_im_Field_served).find? fun p => Nat.beq p.1 0).elim .skip (·.2)
theorem l_im_Field_served_0 : (DL_im_Field_served_0).OK E_im_Field_served tt Z_im_Field_served (orcOf O_im_Field_served) B_im_Field_served_0 where
  ok := by kernel_rfl
  oke := by kernel_rfl
  okr := by kernel_rfl
  eta := fun _ => rfl
  step := fun _ _ => by kernel_rfl
theorem o_im_Field_served : LoopsOK E_im_Field_served tt Z_im_Field_served O_im_Field_served C_im_Field_served := by
  have h : loopsOf C_im_Field_served = [(0, B_im_Field_served_0)] := by kernel_rfl
  unfold LoopsOK
  rw [h]
  exact List.forall_mem_cons.2 ⟨fun d h => (by have e : some (DL_im_Field_served_0) = some d := h; cases e; exact l_im_Field_served_0), fun _ h => absurd h List.not_mem_nil⟩
theorem ok_im_Field_served : FnOK prog E_im_Field_served tt 127 D_im_Field_served K_im_Field_served Z_im_Field_served O_im_Field_served f127 C_im_Field_served (fun x => T_im_Field_served x.1.1.1 x.1.1.2.1 x.1.2.1) (fun r => (((), ()), (r, ()))) where
  at_ := func127
  name := by kernel_rfl
  body := by kernel_rfl
  res := by kernel_rfl
  ok := by kernel_rfl
  arity := fun _ => Nat.le_of_ble_eq_true (by kernel_rfl)
  pin := fun _ => by kernel_rfl
  chk := by kernel_rfl
  loops := o_im_Field_served
  run := e_im_Field_served
  F := fun _ => rfl
  emb := fun _ => rfl
theorem fd_im_Field_served : FDok prog (127, D_im_Field_served) := fn_ok mixed (env_ok (List.forall_mem_cons.2 ⟨fd_im_Field_server, fun _ h => absurd h List.not_mem_nil⟩)) tabOK ok_im_Field_served
theorem e_im_Field_lengths : ∀ x : D_im_Field_lengths.T, ((acode E_im_Field_lengths tt Z_im_Field_lengths (orcOf O_im_Field_lengths) C_im_Field_lengths (entry A_im_Field_lengths I_im_Field_lengths x)).map (keepRet tt K_im_Field_lengths)).ev = ((T_im_Field_lengths x.1.1.1 x.1.1.2.1 x.1.2.1).map fun r => some (((((), ()), (r, ()))) : K_im_Field_lengths.T)).ev := fun _ => by kernel_rfl
noncomputable def B_im_Field_lengths_0 : Code := ((loopsOf C_im_Field_lengths).find? fun p => Nat.beq p.1 0).elim .skip (·.2)
theorem l_im_Field_lengths_0 : (DL_im_Field_lengths_0).OK E_im_Field_lengths tt Z_im_Field_lengths (orcOf O_im_Field_lengths) B_im_Field_lengths_0 where
  ok := by kernel_rfl
  oke := by kernel_rfl
  okr := by kernel_rfl
  eta := fun _ => rfl
  step := fun _ _ => by kernel_rfl
theorem o_im_Field_lengths : LoopsOK E_im_Field_lengths tt Z_im_Field_lengths O_im_Field_lengths C_im_Field_lengths := by
  have h : loopsOf C_im_Field_lengths = [(0, B_im_Field_lengths_0)] := by kernel_rfl
  unfold LoopsOK
  rw [h]
  exact List.forall_mem_cons.2 ⟨fun d h => (by have e : some (DL_im_Field_lengths_0) = some d := h; cases e; exact l_im_Field_lengths_0), fun _ h => absurd h List.not_mem_nil⟩
theorem ok_im_Field_lengths : FnOK prog E_im_Field_lengths tt 156 D_im_Field_lengths K_im_Field_lengths Z_im_Field_lengths O_im_Field_lengths f156 C_im_Field_lengths (fun x => T_im_Field_lengths x.1.1.1 x.1.1.2.1 x.1.2.1) (fun r => (((), ()), (r, ()))) where
  at_ := func156
  name := by kernel_rfl
  body := by kernel_rfl
  res := by kernel_rfl
  ok := by kernel_rfl
  arity := fun _ => Nat.le_of_ble_eq_true (by kernel_rfl)
  pin := fun _ => by kernel_rfl
  chk := by kernel_rfl
  loops := o_im_Field_lengths
  run := e_im_Field_lengths
  F := fun _ => rfl
  emb := fun _ => rfl
theorem fd_im_Field_lengths : FDok prog (156, D_im_Field_lengths) := fn_ok mixed (env_ok (List.forall_mem_cons.2 ⟨fd_im_Field_served, fun _ h => absurd h List.not_mem_nil⟩)) tabOK ok_im_Field_lengths
theorem e_im_sum : ∀ x : D_im_sum.T, ((acode E_im_sum tt Z_im_sum (orcOf O_im_sum) C_im_sum (entry A_im_sum I_im_sum x)).map (keepRet tt K_im_sum)).ev = ((T_im_sum x.1.1).map fun r => some ((((r, ()), ())) : K_im_sum.T)).ev := fun _ => by kernel_rfl
noncomputable def B_im_sum_0 : Code := ((loopsOf C_im_sum).find? fun p => Nat.beq p.1 0).elim .skip (·.2)
theorem l_im_sum_0 : (DL_im_sum_0).OK E_im_sum tt Z_im_sum (orcOf O_im_sum) B_im_sum_0 where
  ok := by kernel_rfl
  oke := by kernel_rfl
  okr := by kernel_rfl
  eta := fun _ => rfl
  step := fun _ _ => by kernel_rfl
theorem o_im_sum : LoopsOK E_im_sum tt Z_im_sum O_im_sum C_im_sum := by
  have h : loopsOf C_im_sum = [(0, B_im_sum_0)] := by kernel_rfl
  unfold LoopsOK
  rw [h]
  exact List.forall_mem_cons.2 ⟨fun d h => (by have e : some (DL_im_sum_0) = some d := h; cases e; exact l_im_sum_0), fun _ h => absurd h List.not_mem_nil⟩
theorem ok_im_sum : FnOK prog E_im_sum tt 98 D_im_sum K_im_sum Z_im_sum O_im_sum f98 C_im_sum (fun x => T_im_sum x.1.1) (fun r => ((r, ()), ())) where
  at_ := func98
  name := by kernel_rfl
  body := by kernel_rfl
  res := by kernel_rfl
  ok := by kernel_rfl
  arity := fun _ => Nat.le_of_ble_eq_true (by kernel_rfl)
  pin := fun _ => by kernel_rfl
  chk := by kernel_rfl
  loops := o_im_sum
  run := e_im_sum
  F := fun _ => rfl
  emb := fun _ => rfl
theorem fd_im_sum : FDok prog (98, D_im_sum) := fn_ok mixed (env_ok (fun _ h => absurd h List.not_mem_nil)) tabOK ok_im_sum
theorem e_im_Field_service : ∀ x : D_im_Field_service.T, ((acode E_im_Field_service tt Z_im_Field_service (orcOf O_im_Field_service) C_im_Field_service (entry A_im_Field_service I_im_Field_service x)).map (keepRet tt K_im_Field_service)).ev = ((T_im_Field_service x.1.1.1 x.1.1.2.1 x.1.2.1).map fun r => some ((((r, ()), ())) : K_im_Field_service.T)).ev := fun _ => by kernel_rfl
theorem o_im_Field_service : LoopsOK E_im_Field_service tt Z_im_Field_service O_im_Field_service C_im_Field_service := by
  have h : loopsOf C_im_Field_service = [] := by kernel_rfl
  unfold LoopsOK
  rw [h]
  exact fun _ h => absurd h List.not_mem_nil
theorem ok_im_Field_service : FnOK prog E_im_Field_service tt 110 D_im_Field_service K_im_Field_service Z_im_Field_service O_im_Field_service f110 C_im_Field_service (fun x => T_im_Field_service x.1.1.1 x.1.1.2.1 x.1.2.1) (fun r => ((r, ()), ())) where
  at_ := func110
  name := by kernel_rfl
  body := by kernel_rfl
  res := by kernel_rfl
  ok := by kernel_rfl
  arity := fun _ => Nat.le_of_ble_eq_true (by kernel_rfl)
  pin := fun _ => by kernel_rfl
  chk := by kernel_rfl
  loops := o_im_Field_service
  run := e_im_Field_service
  F := fun _ => rfl
  emb := fun _ => rfl
theorem fd_im_Field_service : FDok prog (110, D_im_Field_service) := fn_ok mixed (env_ok (List.forall_mem_cons.2 ⟨fd_im_Field_lengths, List.forall_mem_cons.2 ⟨fd_im_sum, fun _ h => absurd h List.not_mem_nil⟩⟩)) tabOK ok_im_Field_service
theorem e_im_Season_move : ∀ x : D_im_Season_move.T, ((acode E_im_Season_move tt Z_im_Season_move (orcOf O_im_Season_move) C_im_Season_move (entry A_im_Season_move I_im_Season_move x)).map (keepRet tt K_im_Season_move)).ev = ((T_im_Season_move x.1.1.1 x.1.1.2.1 x.1.1.2.2.1 x.1.1.2.2.2.1 x.1.2.1 x.1.2.2.1 x.1.2.2.2.1).map fun r => some ((((r, ()), ())) : K_im_Season_move.T)).ev := fun _ => by kernel_rfl
noncomputable def B_im_Season_move_0 : Code := ((loopsOf C_im_Season_move).find? fun p => Nat.beq p.1 0).elim .skip (·.2)
theorem l_im_Season_move_0 : (DL_im_Season_move_0).OK E_im_Season_move tt Z_im_Season_move (orcOf O_im_Season_move) B_im_Season_move_0 where
  ok := by kernel_rfl
  oke := by kernel_rfl
  okr := by kernel_rfl
  eta := fun _ => rfl
  step := fun _ _ => by kernel_rfl
theorem o_im_Season_move : LoopsOK E_im_Season_move tt Z_im_Season_move O_im_Season_move C_im_Season_move := by
  have h : loopsOf C_im_Season_move = [(0, B_im_Season_move_0)] := by kernel_rfl
  unfold LoopsOK
  rw [h]
  exact List.forall_mem_cons.2 ⟨fun d h => (by have e : some (DL_im_Season_move_0) = some d := h; cases e; exact l_im_Season_move_0), fun _ h => absurd h List.not_mem_nil⟩
theorem ok_im_Season_move : FnOK prog E_im_Season_move tt 86 D_im_Season_move K_im_Season_move Z_im_Season_move O_im_Season_move f86 C_im_Season_move (fun x => T_im_Season_move x.1.1.1 x.1.1.2.1 x.1.1.2.2.1 x.1.1.2.2.2.1 x.1.2.1 x.1.2.2.1 x.1.2.2.2.1) (fun r => ((r, ()), ())) where
  at_ := func86
  name := by kernel_rfl
  body := by kernel_rfl
  res := by kernel_rfl
  ok := by kernel_rfl
  arity := fun _ => Nat.le_of_ble_eq_true (by kernel_rfl)
  pin := fun _ => by kernel_rfl
  chk := by kernel_rfl
  loops := o_im_Season_move
  run := e_im_Season_move
  F := fun _ => rfl
  emb := fun _ => rfl
theorem fd_im_Season_move : FDok prog (86, D_im_Season_move) := fn_ok mixed (env_ok (List.forall_mem_cons.2 ⟨fd_im_bagOf, List.forall_mem_cons.2 ⟨fd_im_bag_has, List.forall_mem_cons.2 ⟨fd_im_Field_service, fun _ h => absurd h List.not_mem_nil⟩⟩⟩)) tabOK ok_im_Season_move
theorem e_im_Season_moves : ∀ x : D_im_Season_moves.T, ((acode E_im_Season_moves tt Z_im_Season_moves (orcOf O_im_Season_moves) C_im_Season_moves (entry A_im_Season_moves I_im_Season_moves x)).map (keepRet tt K_im_Season_moves)).ev = ((T_im_Season_moves x.1.1.1 x.1.1.2.1 x.1.1.2.2.1 x.1.1.2.2.2.1 x.1.2.1).map fun r => some (((((), ()), (r, ()))) : K_im_Season_moves.T)).ev := fun _ => by kernel_rfl
noncomputable def B_im_Season_moves_0 : Code := ((loopsOf C_im_Season_moves).find? fun p => Nat.beq p.1 0).elim .skip (·.2)
theorem l_im_Season_moves_0 : (DL_im_Season_moves_0).OK E_im_Season_moves tt Z_im_Season_moves (orcOf O_im_Season_moves) B_im_Season_moves_0 where
  ok := by kernel_rfl
  oke := by kernel_rfl
  okr := by kernel_rfl
  eta := fun _ => rfl
  step := fun _ _ => by kernel_rfl
theorem o_im_Season_moves : LoopsOK E_im_Season_moves tt Z_im_Season_moves O_im_Season_moves C_im_Season_moves := by
  have h : loopsOf C_im_Season_moves = [(0, B_im_Season_moves_0)] := by kernel_rfl
  unfold LoopsOK
  rw [h]
  exact List.forall_mem_cons.2 ⟨fun d h => (by have e : some (DL_im_Season_moves_0) = some d := h; cases e; exact l_im_Season_moves_0), fun _ h => absurd h List.not_mem_nil⟩
theorem ok_im_Season_moves : FnOK prog E_im_Season_moves tt 99 D_im_Season_moves K_im_Season_moves Z_im_Season_moves O_im_Season_moves f99 C_im_Season_moves (fun x => T_im_Season_moves x.1.1.1 x.1.1.2.1 x.1.1.2.2.1 x.1.1.2.2.2.1 x.1.2.1) (fun r => (((), ()), (r, ()))) where
  at_ := func99
  name := by kernel_rfl
  body := by kernel_rfl
  res := by kernel_rfl
  ok := by kernel_rfl
  arity := fun _ => Nat.le_of_ble_eq_true (by kernel_rfl)
  pin := fun _ => by kernel_rfl
  chk := by kernel_rfl
  loops := o_im_Season_moves
  run := e_im_Season_moves
  F := fun _ => rfl
  emb := fun _ => rfl
theorem fd_im_Season_moves : FDok prog (99, D_im_Season_moves) := fn_ok mixed (env_ok (List.forall_mem_cons.2 ⟨fd_im_Season_move, fun _ h => absurd h List.not_mem_nil⟩)) tabOK ok_im_Season_moves
theorem e_im_StaticPlan_3 : ∀ x : D_im_StaticPlan_3.T, ((acode E_im_StaticPlan_3 tt Z_im_StaticPlan_3 (orcOf O_im_StaticPlan_3) C_im_StaticPlan_3 (entry A_im_StaticPlan_3 I_im_StaticPlan_3 x)).map (keepRet tt K_im_StaticPlan_3)).ev = ((T_im_StaticPlan_3 x.1.1 x.1.2.1.1 x.1.2.1.2.1 x.1.2.1.2.2.1 x.1.2.1.2.2.2.1 x.1.2.2.1.1).map fun r => some ((((r, ()), ())) : K_im_StaticPlan_3.T)).ev := fun _ => by kernel_rfl
theorem o_im_StaticPlan_3 : LoopsOK E_im_StaticPlan_3 tt Z_im_StaticPlan_3 O_im_StaticPlan_3 C_im_StaticPlan_3 := by
  have h : loopsOf C_im_StaticPlan_3 = [] := by kernel_rfl
  unfold LoopsOK
  rw [h]
  exact fun _ h => absurd h List.not_mem_nil
theorem ok_im_StaticPlan_3 : FnOK prog E_im_StaticPlan_3 tt 97 D_im_StaticPlan_3 K_im_StaticPlan_3 Z_im_StaticPlan_3 O_im_StaticPlan_3 f97 C_im_StaticPlan_3 (fun x => T_im_StaticPlan_3 x.1.1 x.1.2.1.1 x.1.2.1.2.1 x.1.2.1.2.2.1 x.1.2.1.2.2.2.1 x.1.2.2.1.1) (fun r => ((r, ()), ())) where
  at_ := func97
  name := by kernel_rfl
  body := by kernel_rfl
  res := by kernel_rfl
  ok := by kernel_rfl
  arity := fun _ => Nat.le_of_ble_eq_true (by kernel_rfl)
  pin := fun _ => by kernel_rfl
  chk := by kernel_rfl
  loops := o_im_StaticPlan_3
  run := e_im_StaticPlan_3
  F := fun _ => rfl
  emb := fun _ => rfl
theorem fd_im_StaticPlan_3 : FDok prog (97, D_im_StaticPlan_3) := fn_ok mixed (env_ok (List.forall_mem_cons.2 ⟨fd_im_Season_moves, List.forall_mem_cons.2 ⟨fd_im_sum, fun _ h => absurd h List.not_mem_nil⟩⟩)) tabOK ok_im_StaticPlan_3
theorem e_im_StaticPlan : ∀ x : D_im_StaticPlan.T, ((acode E_im_StaticPlan tt Z_im_StaticPlan (orcOf O_im_StaticPlan) C_im_StaticPlan (entry A_im_StaticPlan I_im_StaticPlan x)).map (keepRet tt K_im_StaticPlan)).ev = ((T_im_StaticPlan x.1.1.1 x.1.1.2.1 x.1.1.2.2.1 x.1.1.2.2.2.1).map fun r => some (((((), (r.1, ())), (r.2, ()))) : K_im_StaticPlan.T)).ev := fun _ => by kernel_rfl
theorem o_im_StaticPlan : LoopsOK E_im_StaticPlan tt Z_im_StaticPlan O_im_StaticPlan C_im_StaticPlan := by
  have h : loopsOf C_im_StaticPlan = [] := by kernel_rfl
  unfold LoopsOK
  rw [h]
  exact fun _ h => absurd h List.not_mem_nil
theorem ok_im_StaticPlan : FnOK prog E_im_StaticPlan tt 35 D_im_StaticPlan K_im_StaticPlan Z_im_StaticPlan O_im_StaticPlan f35 C_im_StaticPlan (fun x => T_im_StaticPlan x.1.1.1 x.1.1.2.1 x.1.1.2.2.1 x.1.1.2.2.2.1) (fun r => (((), (r.1, ())), (r.2, ()))) where
  at_ := func35
  name := by kernel_rfl
  body := by kernel_rfl
  res := by kernel_rfl
  ok := by kernel_rfl
  arity := fun _ => Nat.le_of_ble_eq_true (by kernel_rfl)
  pin := fun _ => by kernel_rfl
  chk := by kernel_rfl
  loops := o_im_StaticPlan
  run := e_im_StaticPlan
  F := fun _ => rfl
  emb := fun _ => rfl
theorem fd_im_StaticPlan : FDok prog (35, D_im_StaticPlan) := fn_ok mixed (env_ok (List.forall_mem_cons.2 ⟨fd_im_IsSeason, List.forall_mem_cons.2 ⟨fd_im_lists, List.forall_mem_cons.2 ⟨fd_im_least, List.forall_mem_cons.2 ⟨fd_im_least, List.forall_mem_cons.2 ⟨fd_im_StaticPlan_3, List.forall_mem_cons.2 ⟨fd_im_lists, List.forall_mem_cons.2 ⟨fd_im_StaticPlan_2, List.forall_mem_cons.2 ⟨fd_im_StaticPlan_1, fun _ h => absurd h List.not_mem_nil⟩⟩⟩⟩⟩⟩⟩⟩)) tabOK ok_im_StaticPlan
theorem e_lw_eqIntS : ∀ x : D_lw_eqIntS.T, ((acode E_lw_eqIntS tt Z_lw_eqIntS (orcOf O_lw_eqIntS) C_lw_eqIntS (entry A_lw_eqIntS I_lw_eqIntS x)).map (keepRet tt K_lw_eqIntS)).ev = ((T_lw_eqIntS x.1.1 x.1.2.1).map fun r => some ((((r, ()), ())) : K_lw_eqIntS.T)).ev := fun _ => by kernel_rfl
noncomputable def B_lw_eqIntS_0 : Code := ((loopsOf C_lw_eqIntS).find? fun p => Nat.beq p.1 0).elim .skip (·.2)
theorem l_lw_eqIntS_0 : (DL_lw_eqIntS_0).OK E_lw_eqIntS tt Z_lw_eqIntS (orcOf O_lw_eqIntS) B_lw_eqIntS_0 where
  ok := by kernel_rfl
  oke := by kernel_rfl
  okr := by kernel_rfl
  eta := fun _ => rfl
  step := fun _ _ => by kernel_rfl
theorem o_lw_eqIntS : LoopsOK E_lw_eqIntS tt Z_lw_eqIntS O_lw_eqIntS C_lw_eqIntS := by
  have h : loopsOf C_lw_eqIntS = [(0, B_lw_eqIntS_0)] := by kernel_rfl
  unfold LoopsOK
  rw [h]
  exact List.forall_mem_cons.2 ⟨fun d h => (by have e : some (DL_lw_eqIntS_0) = some d := h; cases e; exact l_lw_eqIntS_0), fun _ h => absurd h List.not_mem_nil⟩
theorem ok_lw_eqIntS : FnOK prog E_lw_eqIntS tt 43 D_lw_eqIntS K_lw_eqIntS Z_lw_eqIntS O_lw_eqIntS f43 C_lw_eqIntS (fun x => T_lw_eqIntS x.1.1 x.1.2.1) (fun r => ((r, ()), ())) where
  at_ := func43
  name := by kernel_rfl
  body := by kernel_rfl
  res := by kernel_rfl
  ok := by kernel_rfl
  arity := fun _ => Nat.le_of_ble_eq_true (by kernel_rfl)
  pin := fun _ => by kernel_rfl
  chk := by kernel_rfl
  loops := o_lw_eqIntS
  run := e_lw_eqIntS
  F := fun _ => rfl
  emb := fun _ => rfl
theorem fd_lw_eqIntS : FDok prog (43, D_lw_eqIntS) := fn_ok mixed (env_ok (fun _ h => absurd h List.not_mem_nil)) tabOK ok_lw_eqIntS
theorem e_lw_eqIntSS : ∀ x : D_lw_eqIntSS.T, ((acode E_lw_eqIntSS tt Z_lw_eqIntSS (orcOf O_lw_eqIntSS) C_lw_eqIntSS (entry A_lw_eqIntSS I_lw_eqIntSS x)).map (keepRet tt K_lw_eqIntSS)).ev = ((T_lw_eqIntSS x.1.1 x.1.2.1).map fun r => some ((((r, ()), ())) : K_lw_eqIntSS.T)).ev := fun _ => by kernel_rfl
noncomputable def B_lw_eqIntSS_0 : Code := ((loopsOf C_lw_eqIntSS).find? fun p => Nat.beq p.1 0).elim .skip (·.2)
theorem l_lw_eqIntSS_0 : (DL_lw_eqIntSS_0).OK E_lw_eqIntSS tt Z_lw_eqIntSS (orcOf O_lw_eqIntSS) B_lw_eqIntSS_0 where
  ok := by kernel_rfl
  oke := by kernel_rfl
  okr := by kernel_rfl
  eta := fun _ => rfl
  step := fun _ _ => by kernel_rfl
theorem o_lw_eqIntSS : LoopsOK E_lw_eqIntSS tt Z_lw_eqIntSS O_lw_eqIntSS C_lw_eqIntSS := by
  have h : loopsOf C_lw_eqIntSS = [(0, B_lw_eqIntSS_0)] := by kernel_rfl
  unfold LoopsOK
  rw [h]
  exact List.forall_mem_cons.2 ⟨fun d h => (by have e : some (DL_lw_eqIntSS_0) = some d := h; cases e; exact l_lw_eqIntSS_0), fun _ h => absurd h List.not_mem_nil⟩
theorem ok_lw_eqIntSS : FnOK prog E_lw_eqIntSS tt 22 D_lw_eqIntSS K_lw_eqIntSS Z_lw_eqIntSS O_lw_eqIntSS f22 C_lw_eqIntSS (fun x => T_lw_eqIntSS x.1.1 x.1.2.1) (fun r => ((r, ()), ())) where
  at_ := func22
  name := by kernel_rfl
  body := by kernel_rfl
  res := by kernel_rfl
  ok := by kernel_rfl
  arity := fun _ => Nat.le_of_ble_eq_true (by kernel_rfl)
  pin := fun _ => by kernel_rfl
  chk := by kernel_rfl
  loops := o_lw_eqIntSS
  run := e_lw_eqIntSS
  F := fun _ => rfl
  emb := fun _ => rfl
theorem fd_lw_eqIntSS : FDok prog (22, D_lw_eqIntSS) := fn_ok mixed (env_ok (List.forall_mem_cons.2 ⟨fd_lw_eqIntS, fun _ h => absurd h List.not_mem_nil⟩)) tabOK ok_lw_eqIntSS
theorem e_lw_eqIntSSS : ∀ x : D_lw_eqIntSSS.T, ((acode E_lw_eqIntSSS tt Z_lw_eqIntSSS (orcOf O_lw_eqIntSSS) C_lw_eqIntSSS (entry A_lw_eqIntSSS I_lw_eqIntSSS x)).map (keepRet tt K_lw_eqIntSSS)).ev = ((T_lw_eqIntSSS x.1.1 x.1.2.1).map fun r => some ((((r, ()), ())) : K_lw_eqIntSSS.T)).ev := fun _ => by kernel_rfl
noncomputable def B_lw_eqIntSSS_0 : Code := ((loopsOf C_lw_eqIntSSS).find? fun p => Nat.beq p.1 0).elim .skip (·.2)
theorem l_lw_eqIntSSS_0 : (DL_lw_eqIntSSS_0).OK E_lw_eqIntSSS tt Z_lw_eqIntSSS (orcOf O_lw_eqIntSSS) B_lw_eqIntSSS_0 where
  ok := by kernel_rfl
  oke := by kernel_rfl
  okr := by kernel_rfl
  eta := fun _ => rfl
  step := fun _ _ => by kernel_rfl
theorem o_lw_eqIntSSS : LoopsOK E_lw_eqIntSSS tt Z_lw_eqIntSSS O_lw_eqIntSSS C_lw_eqIntSSS := by
  have h : loopsOf C_lw_eqIntSSS = [(0, B_lw_eqIntSSS_0)] := by kernel_rfl
  unfold LoopsOK
  rw [h]
  exact List.forall_mem_cons.2 ⟨fun d h => (by have e : some (DL_lw_eqIntSSS_0) = some d := h; cases e; exact l_lw_eqIntSSS_0), fun _ h => absurd h List.not_mem_nil⟩
theorem ok_lw_eqIntSSS : FnOK prog E_lw_eqIntSSS tt 71 D_lw_eqIntSSS K_lw_eqIntSSS Z_lw_eqIntSSS O_lw_eqIntSSS f71 C_lw_eqIntSSS (fun x => T_lw_eqIntSSS x.1.1 x.1.2.1) (fun r => ((r, ()), ())) where
  at_ := func71
  name := by kernel_rfl
  body := by kernel_rfl
  res := by kernel_rfl
  ok := by kernel_rfl
  arity := fun _ => Nat.le_of_ble_eq_true (by kernel_rfl)
  pin := fun _ => by kernel_rfl
  chk := by kernel_rfl
  loops := o_lw_eqIntSSS
  run := e_lw_eqIntSSS
  F := fun _ => rfl
  emb := fun _ => rfl
theorem fd_lw_eqIntSSS : FDok prog (71, D_lw_eqIntSSS) := fn_ok mixed (env_ok (List.forall_mem_cons.2 ⟨fd_lw_eqIntSS, fun _ h => absurd h List.not_mem_nil⟩)) tabOK ok_lw_eqIntSSS
theorem e_lw_eqSeason : ∀ x : D_lw_eqSeason.T, ((acode E_lw_eqSeason tt Z_lw_eqSeason (orcOf O_lw_eqSeason) C_lw_eqSeason (entry A_lw_eqSeason I_lw_eqSeason x)).map (keepRet tt K_lw_eqSeason)).ev = ((T_lw_eqSeason x.1.1.1 x.1.1.2.1 x.1.1.2.2.1 x.1.1.2.2.2.1 x.1.2.1.1 x.1.2.1.2.1 x.1.2.1.2.2.1 x.1.2.1.2.2.2.1).map fun r => some ((((r, ()), ())) : K_lw_eqSeason.T)).ev := fun _ => by kernel_rfl
theorem o_lw_eqSeason : LoopsOK E_lw_eqSeason tt Z_lw_eqSeason O_lw_eqSeason C_lw_eqSeason := by
  have h : loopsOf C_lw_eqSeason = [] := by kernel_rfl
  unfold LoopsOK
  rw [h]
  exact fun _ h => absurd h List.not_mem_nil
theorem ok_lw_eqSeason : FnOK prog E_lw_eqSeason tt 17 D_lw_eqSeason K_lw_eqSeason Z_lw_eqSeason O_lw_eqSeason f17 C_lw_eqSeason (fun x => T_lw_eqSeason x.1.1.1 x.1.1.2.1 x.1.1.2.2.1 x.1.1.2.2.2.1 x.1.2.1.1 x.1.2.1.2.1 x.1.2.1.2.2.1 x.1.2.1.2.2.2.1) (fun r => ((r, ()), ())) where
  at_ := func17
  name := by kernel_rfl
  body := by kernel_rfl
  res := by kernel_rfl
  ok := by kernel_rfl
  arity := fun _ => Nat.le_of_ble_eq_true (by kernel_rfl)
  pin := fun _ => by kernel_rfl
  chk := by kernel_rfl
  loops := o_lw_eqSeason
  run := e_lw_eqSeason
  F := fun _ => rfl
  emb := fun _ => rfl
theorem fd_lw_eqSeason : FDok prog (17, D_lw_eqSeason) := fn_ok mixed (env_ok (List.forall_mem_cons.2 ⟨fd_lw_eqIntS, List.forall_mem_cons.2 ⟨fd_lw_eqIntSSS, fun _ h => absurd h List.not_mem_nil⟩⟩)) tabOK ok_lw_eqSeason
theorem e_lw_markIntS : ∀ x : D_lw_markIntS.T, ((acode E_lw_markIntS tt Z_lw_markIntS (orcOf O_lw_markIntS) C_lw_markIntS (entry A_lw_markIntS I_lw_markIntS x)).map (keepRet tt K_lw_markIntS)).ev = ((T_lw_markIntS x.1.2.1 x.2.1).map fun r => some ((((r.1, ()), (r.2, ()))) : K_lw_markIntS.T)).ev := fun _ => by kernel_rfl
noncomputable def B_lw_markIntS_0 : Code := ((loopsOf C_lw_markIntS).find? fun p => Nat.beq p.1 0).elim .skip (·.2)
theorem l_lw_markIntS_0 : (DL_lw_markIntS_0).OK E_lw_markIntS tt Z_lw_markIntS (orcOf O_lw_markIntS) B_lw_markIntS_0 where
  ok := by kernel_rfl
  oke := by kernel_rfl
  okr := by kernel_rfl
  eta := fun _ => rfl
  step := fun _ _ => by kernel_rfl
theorem o_lw_markIntS : LoopsOK E_lw_markIntS tt Z_lw_markIntS O_lw_markIntS C_lw_markIntS := by
  have h : loopsOf C_lw_markIntS = [(0, B_lw_markIntS_0)] := by kernel_rfl
  unfold LoopsOK
  rw [h]
  exact List.forall_mem_cons.2 ⟨fun d h => (by have e : some (DL_lw_markIntS_0) = some d := h; cases e; exact l_lw_markIntS_0), fun _ h => absurd h List.not_mem_nil⟩
theorem ok_lw_markIntS : FnOK prog E_lw_markIntS tt 47 D_lw_markIntS K_lw_markIntS Z_lw_markIntS O_lw_markIntS f47 C_lw_markIntS (fun x => T_lw_markIntS x.1.2.1 x.2.1) (fun r => ((r.1, ()), (r.2, ()))) where
  at_ := func47
  name := by kernel_rfl
  body := by kernel_rfl
  res := by kernel_rfl
  ok := by kernel_rfl
  arity := fun _ => Nat.le_of_ble_eq_true (by kernel_rfl)
  pin := fun _ => by kernel_rfl
  chk := by kernel_rfl
  loops := o_lw_markIntS
  run := e_lw_markIntS
  F := fun _ => rfl
  emb := fun _ => rfl
theorem fd_lw_markIntS : FDok prog (47, D_lw_markIntS) := fn_ok mixed (env_ok (fun _ h => absurd h List.not_mem_nil)) tabOK ok_lw_markIntS
theorem fd_lw_markIntSSS : FDok prog (88, D_lw_markIntSSS) := hand_mark3
theorem e_lw_markSeason : ∀ x : D_lw_markSeason.T, ((acode E_lw_markSeason tt Z_lw_markSeason (orcOf O_lw_markSeason) C_lw_markSeason (entry A_lw_markSeason I_lw_markSeason x)).map (keepRet tt K_lw_markSeason)).ev = ((T_lw_markSeason x.1.2.1 x.2.1 x.2.2.1 x.2.2.2.1 x.2.2.2.2.1).map fun r => some ((((r.1, ()), (r.2.1, (r.2.2.1, (r.2.2.2, ((), ())))))) : K_lw_markSeason.T)).ev := fun _ => by kernel_rfl
theorem o_lw_markSeason : LoopsOK E_lw_markSeason tt Z_lw_markSeason O_lw_markSeason C_lw_markSeason := by
  have h : loopsOf C_lw_markSeason = [] := by kernel_rfl
  unfold LoopsOK
  rw [h]
  exact fun _ h => absurd h List.not_mem_nil
theorem ok_lw_markSeason : FnOK prog E_lw_markSeason tt 27 D_lw_markSeason K_lw_markSeason Z_lw_markSeason O_lw_markSeason f27 C_lw_markSeason (fun x => T_lw_markSeason x.1.2.1 x.2.1 x.2.2.1 x.2.2.2.1 x.2.2.2.2.1) (fun r => ((r.1, ()), (r.2.1, (r.2.2.1, (r.2.2.2, ((), ())))))) where
  at_ := func27
  name := by kernel_rfl
  body := by kernel_rfl
  res := by kernel_rfl
  ok := by kernel_rfl
  arity := fun _ => Nat.le_of_ble_eq_true (by kernel_rfl)
  pin := fun _ => by kernel_rfl
  chk := by kernel_rfl
  loops := o_lw_markSeason
  run := e_lw_markSeason
  F := fun _ => rfl
  emb := fun _ => rfl
theorem fd_lw_markSeason : FDok prog (27, D_lw_markSeason) := fn_ok mixed (env_ok (List.forall_mem_cons.2 ⟨fd_lw_markIntS, List.forall_mem_cons.2 ⟨fd_lw_markIntSSS, fun _ h => absurd h List.not_mem_nil⟩⟩)) tabOK ok_lw_markSeason
theorem e_lw_markIntSS : ∀ x : D_lw_markIntSS.T, ((acode E_lw_markIntSS tt Z_lw_markIntSS (orcOf O_lw_markIntSS) C_lw_markIntSS (entry A_lw_markIntSS I_lw_markIntSS x)).map (keepRet tt K_lw_markIntSS)).ev = ((T_lw_markIntSS x.1.2.1 x.2.1).map fun r => some ((((r.1, ()), (r.2, ()))) : K_lw_markIntSS.T)).ev := fun _ => by kernel_rfl
noncomputable def B_lw_markIntSS_0 : Code := ((loopsOf C_lw_markIntSS).find? fun p => Nat.beq p.1 0).elim .skip (·.2)
theorem l_lw_markIntSS_0 : (DL_lw_markIntSS_0).OK E_lw_markIntSS tt Z_lw_markIntSS (orcOf O_lw_markIntSS) B_lw_markIntSS_0 where
  ok := by kernel_rfl
  oke := by kernel_rfl
  okr := by kernel_rfl
  eta := fun _ => rfl
  step := fun _ _ => by kernel_rfl
theorem o_lw_markIntSS : LoopsOK E_lw_markIntSS tt Z_lw_markIntSS O_lw_markIntSS C_lw_markIntSS := by
  have h : loopsOf C_lw_markIntSS = [(0, B_lw_markIntSS_0)] := by kernel_rfl
  unfold LoopsOK
  rw [h]
  exact List.forall_mem_cons.2 ⟨fun d h => (by have e : some (DL_lw_markIntSS_0) = some d := h; cases e; exact l_lw_markIntSS_0), fun _ h => absurd h List.not_mem_nil⟩
theorem ok_lw_markIntSS : FnOK prog E_lw_markIntSS tt 28 D_lw_markIntSS K_lw_markIntSS Z_lw_markIntSS O_lw_markIntSS f28 C_lw_markIntSS (fun x => T_lw_markIntSS x.1.2.1 x.2.1) (fun r => ((r.1, ()), (r.2, ()))) where
  at_ := func28
  name := by kernel_rfl
  body := by kernel_rfl
  res := by kernel_rfl
  ok := by kernel_rfl
  arity := fun _ => Nat.le_of_ble_eq_true (by kernel_rfl)
  pin := fun _ => by kernel_rfl
  chk := by kernel_rfl
  loops := o_lw_markIntSS
  run := e_lw_markIntSS
  F := fun _ => rfl
  emb := fun _ => rfl
theorem fd_lw_markIntSS : FDok prog (28, D_lw_markIntSS) := fn_ok mixed (env_ok (List.forall_mem_cons.2 ⟨fd_lw_markIntS, fun _ h => absurd h List.not_mem_nil⟩)) tabOK ok_lw_markIntSS
theorem e_lw_heldIntS : ∀ x : D_lw_heldIntS.T, ((acode E_lw_heldIntS tt Z_lw_heldIntS (orcOf O_lw_heldIntS) C_lw_heldIntS (entry A_lw_heldIntS I_lw_heldIntS x)).map (keepRet tt K_lw_heldIntS)).ev = ((T_lw_heldIntS x.1.1 x.1.2.1).map fun r => some ((((r, ()), ())) : K_lw_heldIntS.T)).ev := fun _ => by kernel_rfl
noncomputable def B_lw_heldIntS_0 : Code := ((loopsOf C_lw_heldIntS).find? fun p => Nat.beq p.1 0).elim .skip (·.2)
theorem l_lw_heldIntS_0 : (DL_lw_heldIntS_0).OK E_lw_heldIntS tt Z_lw_heldIntS (orcOf O_lw_heldIntS) B_lw_heldIntS_0 where
  ok := by kernel_rfl
  oke := by kernel_rfl
  okr := by kernel_rfl
  eta := fun _ => rfl
  step := fun _ _ => by kernel_rfl
theorem o_lw_heldIntS : LoopsOK E_lw_heldIntS tt Z_lw_heldIntS O_lw_heldIntS C_lw_heldIntS := by
  have h : loopsOf C_lw_heldIntS = [(0, B_lw_heldIntS_0)] := by kernel_rfl
  unfold LoopsOK
  rw [h]
  exact List.forall_mem_cons.2 ⟨fun d h => (by have e : some (DL_lw_heldIntS_0) = some d := h; cases e; exact l_lw_heldIntS_0), fun _ h => absurd h List.not_mem_nil⟩
theorem ok_lw_heldIntS : FnOK prog E_lw_heldIntS tt 48 D_lw_heldIntS K_lw_heldIntS Z_lw_heldIntS O_lw_heldIntS f48 C_lw_heldIntS (fun x => T_lw_heldIntS x.1.1 x.1.2.1) (fun r => ((r, ()), ())) where
  at_ := func48
  name := by kernel_rfl
  body := by kernel_rfl
  res := by kernel_rfl
  ok := by kernel_rfl
  arity := fun _ => Nat.le_of_ble_eq_true (by kernel_rfl)
  pin := fun _ => by kernel_rfl
  chk := by kernel_rfl
  loops := o_lw_heldIntS
  run := e_lw_heldIntS
  F := fun _ => rfl
  emb := fun _ => rfl
theorem fd_lw_heldIntS : FDok prog (48, D_lw_heldIntS) := fn_ok mixed (env_ok (fun _ h => absurd h List.not_mem_nil)) tabOK ok_lw_heldIntS
theorem e_lw_heldIntSS : ∀ x : D_lw_heldIntSS.T, ((acode E_lw_heldIntSS tt Z_lw_heldIntSS (orcOf O_lw_heldIntSS) C_lw_heldIntSS (entry A_lw_heldIntSS I_lw_heldIntSS x)).map (keepRet tt K_lw_heldIntSS)).ev = ((T_lw_heldIntSS x.1.1 x.1.2.1).map fun r => some ((((r, ()), ())) : K_lw_heldIntSS.T)).ev := fun _ => by kernel_rfl
noncomputable def B_lw_heldIntSS_0 : Code := ((loopsOf C_lw_heldIntSS).find? fun p => Nat.beq p.1 0).elim .skip (·.2)
theorem l_lw_heldIntSS_0 : (DL_lw_heldIntSS_0).OK E_lw_heldIntSS tt Z_lw_heldIntSS (orcOf O_lw_heldIntSS) B_lw_heldIntSS_0 where
  ok := by kernel_rfl
  oke := by kernel_rfl
  okr := by kernel_rfl
  eta := fun _ => rfl
  step := fun _ _ => by kernel_rfl
theorem o_lw_heldIntSS : LoopsOK E_lw_heldIntSS tt Z_lw_heldIntSS O_lw_heldIntSS C_lw_heldIntSS := by
  have h : loopsOf C_lw_heldIntSS = [(0, B_lw_heldIntSS_0)] := by kernel_rfl
  unfold LoopsOK
  rw [h]
  exact List.forall_mem_cons.2 ⟨fun d h => (by have e : some (DL_lw_heldIntSS_0) = some d := h; cases e; exact l_lw_heldIntSS_0), fun _ h => absurd h List.not_mem_nil⟩
theorem ok_lw_heldIntSS : FnOK prog E_lw_heldIntSS tt 29 D_lw_heldIntSS K_lw_heldIntSS Z_lw_heldIntSS O_lw_heldIntSS f29 C_lw_heldIntSS (fun x => T_lw_heldIntSS x.1.1 x.1.2.1) (fun r => ((r, ()), ())) where
  at_ := func29
  name := by kernel_rfl
  body := by kernel_rfl
  res := by kernel_rfl
  ok := by kernel_rfl
  arity := fun _ => Nat.le_of_ble_eq_true (by kernel_rfl)
  pin := fun _ => by kernel_rfl
  chk := by kernel_rfl
  loops := o_lw_heldIntSS
  run := e_lw_heldIntSS
  F := fun _ => rfl
  emb := fun _ => rfl
theorem fd_lw_heldIntSS : FDok prog (29, D_lw_heldIntSS) := fn_ok mixed (env_ok (List.forall_mem_cons.2 ⟨fd_lw_heldIntS, fun _ h => absurd h List.not_mem_nil⟩)) tabOK ok_lw_heldIntSS
theorem e_lw_FnExactStaticPlan : ∀ x : D_lw_FnExactStaticPlan.T, ((acode E_lw_FnExactStaticPlan tt Z_lw_FnExactStaticPlan (orcOf O_lw_FnExactStaticPlan) C_lw_FnExactStaticPlan (entry A_lw_FnExactStaticPlan I_lw_FnExactStaticPlan x)).map (keepRet tt K_lw_FnExactStaticPlan)).ev = ((T_lw_FnExactStaticPlan x.1.1.1 x.1.1.2.1 x.1.1.2.2.1 x.1.1.2.2.2.1).map fun r => some ((((r, ()), ())) : K_lw_FnExactStaticPlan.T)).ev := fun _ => by kernel_rfl
theorem o_lw_FnExactStaticPlan : LoopsOK E_lw_FnExactStaticPlan tt Z_lw_FnExactStaticPlan O_lw_FnExactStaticPlan C_lw_FnExactStaticPlan := by
  have h : loopsOf C_lw_FnExactStaticPlan = [] := by kernel_rfl
  unfold LoopsOK
  rw [h]
  exact fun _ h => absurd h List.not_mem_nil
theorem ok_lw_FnExactStaticPlan : FnOK prog E_lw_FnExactStaticPlan tt 9 D_lw_FnExactStaticPlan K_lw_FnExactStaticPlan Z_lw_FnExactStaticPlan O_lw_FnExactStaticPlan f9 C_lw_FnExactStaticPlan (fun x => T_lw_FnExactStaticPlan x.1.1.1 x.1.1.2.1 x.1.1.2.2.1 x.1.1.2.2.2.1) (fun r => ((r, ()), ())) where
  at_ := func9
  name := by kernel_rfl
  body := by kernel_rfl
  res := by kernel_rfl
  ok := by kernel_rfl
  arity := fun _ => Nat.le_of_ble_eq_true (by kernel_rfl)
  pin := fun _ => by kernel_rfl
  chk := by kernel_rfl
  loops := o_lw_FnExactStaticPlan
  run := e_lw_FnExactStaticPlan
  F := fun _ => rfl
  emb := fun _ => rfl
theorem fd_lw_FnExactStaticPlan : FDok prog (9, D_lw_FnExactStaticPlan) := fn_ok mixed (env_ok (List.forall_mem_cons.2 ⟨fd_lw_szSeason, List.forall_mem_cons.2 ⟨fd_lw_toSeason, List.forall_mem_cons.2 ⟨fd_sp_StaticPlan, List.forall_mem_cons.2 ⟨fd_im_StaticPlan, List.forall_mem_cons.2 ⟨fd_lw_eqIntSS, List.forall_mem_cons.2 ⟨fd_lw_eqSeason, List.forall_mem_cons.2 ⟨fd_lw_markSeason, List.forall_mem_cons.2 ⟨fd_lw_markIntSS, List.forall_mem_cons.2 ⟨fd_lw_heldIntSS, fun _ h => absurd h List.not_mem_nil⟩⟩⟩⟩⟩⟩⟩⟩⟩)) tabOK ok_lw_FnExactStaticPlan
end Go.Proofs.Ytlmbhkmaflhagaa
