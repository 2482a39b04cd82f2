import Derived.Test.YtlemejhffpkbkaaC1
namespace Go.Proofs.Ytlemejhffpkbkaa
open Go.Proofs.Try
theorem mixed : prog.follows .mixedOrders = true := by kernel_rfl
theorem tabOK : TabOK prog tt := tab_ok (by kernel_rfl)
theorem e_lw_szIntS : ∀ x : D_lw_szIntS.T, ((acode E_lw_szIntS tt Z_lw_szIntS (orcOf O_lw_szIntS) C_lw_szIntS (entry A_lw_szIntS I_lw_szIntS x)).map (keepRet tt K_lw_szIntS)).ev = ((T_lw_szIntS x.1.1 x.1.2.1).map fun r => some ((((r, ()), ())) : K_lw_szIntS.T)).ev := fun _ => by kernel_rfl
theorem o_lw_szIntS : LoopsOK E_lw_szIntS tt Z_lw_szIntS O_lw_szIntS C_lw_szIntS := by
  have h : loopsOf C_lw_szIntS = [] := by kernel_rfl
  unfold LoopsOK
  rw [h]
  exact fun _ h => absurd h List.not_mem_nil
theorem ok_lw_szIntS : FnOK prog E_lw_szIntS tt 62 D_lw_szIntS K_lw_szIntS Z_lw_szIntS O_lw_szIntS f62 C_lw_szIntS (fun x => T_lw_szIntS x.1.1 x.1.2.1) (fun r => ((r, ()), ())) where
  at_ := func62
  name := by kernel_rfl
  body := by kernel_rfl
  res := by kernel_rfl
  ok := by kernel_rfl
  arity := fun _ => Nat.le_of_ble_eq_true (by kernel_rfl)
  pin := fun _ => by kernel_rfl
  chk := by kernel_rfl
  loops := o_lw_szIntS
  run := e_lw_szIntS
  F := fun _ => rfl
  emb := fun _ => rfl
theorem fd_lw_szIntS : FDok prog (62, D_lw_szIntS) := fn_ok mixed (env_ok (fun _ h => absurd h List.not_mem_nil)) tabOK ok_lw_szIntS
theorem e_lw_szIntSS : ∀ x : D_lw_szIntSS.T, ((acode E_lw_szIntSS tt Z_lw_szIntSS (orcOf O_lw_szIntSS) C_lw_szIntSS (entry A_lw_szIntSS I_lw_szIntSS x)).map (keepRet tt K_lw_szIntSS)).ev = ((T_lw_szIntSS x.1.1 x.1.2.1).map fun r => some ((((r, ()), ())) : K_lw_szIntSS.T)).ev := fun _ => by kernel_rfl
noncomputable def B_lw_szIntSS_0 : Code := ((loopsOf C_lw_szIntSS).find? fun p => Nat.beq p.1 0).elim .skip (·.2)
theorem l_lw_szIntSS_0 : (DL_lw_szIntSS_0).OK E_lw_szIntSS tt Z_lw_szIntSS (orcOf O_lw_szIntSS) B_lw_szIntSS_0 where
  ok := by kernel_rfl
  oke := by kernel_rfl
  okr := by kernel_rfl
  eta := fun _ => rfl
  step := fun _ _ => by kernel_rfl
theorem o_lw_szIntSS : LoopsOK E_lw_szIntSS tt Z_lw_szIntSS O_lw_szIntSS C_lw_szIntSS := by
  have h : loopsOf C_lw_szIntSS = [(0, B_lw_szIntSS_0)] := by kernel_rfl
  unfold LoopsOK
  rw [h]
  exact List.forall_mem_cons.2 ⟨fun d h => (by have e : some (DL_lw_szIntSS_0) = some d := h; cases e; exact l_lw_szIntSS_0), fun _ h => absurd h List.not_mem_nil⟩
theorem ok_lw_szIntSS : FnOK prog E_lw_szIntSS tt 12 D_lw_szIntSS K_lw_szIntSS Z_lw_szIntSS O_lw_szIntSS f12 C_lw_szIntSS (fun x => T_lw_szIntSS x.1.1 x.1.2.1) (fun r => ((r, ()), ())) where
  at_ := func12
  name := by kernel_rfl
  body := by kernel_rfl
  res := by kernel_rfl
  ok := by kernel_rfl
  arity := fun _ => Nat.le_of_ble_eq_true (by kernel_rfl)
  pin := fun _ => by kernel_rfl
  chk := by kernel_rfl
  loops := o_lw_szIntSS
  run := e_lw_szIntSS
  F := fun _ => rfl
  emb := fun _ => rfl
theorem fd_lw_szIntSS : FDok prog (12, D_lw_szIntSS) := fn_ok mixed (env_ok (List.forall_mem_cons.2 ⟨fd_lw_szIntS, fun _ h => absurd h List.not_mem_nil⟩)) tabOK ok_lw_szIntSS
theorem e_lw_toIntS : ∀ x : D_lw_toIntS.T, ((acode E_lw_toIntS tt Z_lw_toIntS (orcOf O_lw_toIntS) C_lw_toIntS (entry A_lw_toIntS I_lw_toIntS x)).map (keepRet tt K_lw_toIntS)).ev = ((T_lw_toIntS x.1.1).map fun r => some (((((), ()), (r, ()))) : K_lw_toIntS.T)).ev := fun _ => by kernel_rfl
noncomputable def B_lw_toIntS_0 : Code := ((loopsOf C_lw_toIntS).find? fun p => Nat.beq p.1 0).elim .skip (·.2)
theorem l_lw_toIntS_0 : (DL_lw_toIntS_0).OK E_lw_toIntS tt Z_lw_toIntS (orcOf O_lw_toIntS) B_lw_toIntS_0 where
  ok := by kernel_rfl
  oke := by kernel_rfl
  okr := by kernel_rfl
  eta := fun _ => rfl
  step := fun _ _ => by kernel_rfl
theorem o_lw_toIntS : LoopsOK E_lw_toIntS tt Z_lw_toIntS O_lw_toIntS C_lw_toIntS := by
  have h : loopsOf C_lw_toIntS = [(0, B_lw_toIntS_0)] := by kernel_rfl
  unfold LoopsOK
  rw [h]
  exact List.forall_mem_cons.2 ⟨fun d h => (by have e : some (DL_lw_toIntS_0) = some d := h; cases e; exact l_lw_toIntS_0), fun _ h => absurd h List.not_mem_nil⟩
theorem ok_lw_toIntS : FnOK prog E_lw_toIntS tt 26 D_lw_toIntS K_lw_toIntS Z_lw_toIntS O_lw_toIntS f26 C_lw_toIntS (fun x => T_lw_toIntS x.1.1) (fun r => (((), ()), (r, ()))) where
  at_ := func26
  name := by kernel_rfl
  body := by kernel_rfl
  res := by kernel_rfl
  ok := by kernel_rfl
  arity := fun _ => Nat.le_of_ble_eq_true (by kernel_rfl)
  pin := fun _ => by kernel_rfl
  chk := by kernel_rfl
  loops := o_lw_toIntS
  run := e_lw_toIntS
  F := fun _ => rfl
  emb := fun _ => rfl
theorem fd_lw_toIntS : FDok prog (26, D_lw_toIntS) := fn_ok mixed (env_ok (fun _ h => absurd h List.not_mem_nil)) tabOK ok_lw_toIntS
theorem e_lw_toIntSS : ∀ x : D_lw_toIntSS.T, ((acode E_lw_toIntSS tt Z_lw_toIntSS (orcOf O_lw_toIntSS) C_lw_toIntSS (entry A_lw_toIntSS I_lw_toIntSS x)).map (keepRet tt K_lw_toIntSS)).ev = ((T_lw_toIntSS x.1.1).map fun r => some (((((), ()), (r, ()))) : K_lw_toIntSS.T)).ev := fun _ => by kernel_rfl
noncomputable def B_lw_toIntSS_0 : Code := ((loopsOf C_lw_toIntSS).find? fun p => Nat.beq p.1 0).elim .skip (·.2)
theorem l_lw_toIntSS_0 : (DL_lw_toIntSS_0).OK E_lw_toIntSS tt Z_lw_toIntSS (orcOf O_lw_toIntSS) B_lw_toIntSS_0 where
  ok := by kernel_rfl
  oke := by kernel_rfl
  okr := by kernel_rfl
  eta := fun _ => rfl
  step := fun _ _ => by kernel_rfl
theorem o_lw_toIntSS : LoopsOK E_lw_toIntSS tt Z_lw_toIntSS O_lw_toIntSS C_lw_toIntSS := by
  have h : loopsOf C_lw_toIntSS = [(0, B_lw_toIntSS_0)] := by kernel_rfl
  unfold LoopsOK
  rw [h]
  exact List.forall_mem_cons.2 ⟨fun d h => (by have e : some (DL_lw_toIntSS_0) = some d := h; cases e; exact l_lw_toIntSS_0), fun _ h => absurd h List.not_mem_nil⟩
theorem ok_lw_toIntSS : FnOK prog E_lw_toIntSS tt 14 D_lw_toIntSS K_lw_toIntSS Z_lw_toIntSS O_lw_toIntSS f14 C_lw_toIntSS (fun x => T_lw_toIntSS x.1.1) (fun r => (((), ()), (r, ()))) where
  at_ := func14
  name := by kernel_rfl
  body := by kernel_rfl
  res := by kernel_rfl
  ok := by kernel_rfl
  arity := fun _ => Nat.le_of_ble_eq_true (by kernel_rfl)
  pin := fun _ => by kernel_rfl
  chk := by kernel_rfl
  loops := o_lw_toIntSS
  run := e_lw_toIntSS
  F := fun _ => rfl
  emb := fun _ => rfl
theorem fd_lw_toIntSS : FDok prog (14, D_lw_toIntSS) := fn_ok mixed (env_ok (List.forall_mem_cons.2 ⟨fd_lw_toIntS, fun _ h => absurd h List.not_mem_nil⟩)) tabOK ok_lw_toIntSS
theorem e_sp_l1In : ∀ x : D_sp_l1In.T, ((acode E_sp_l1In tt Z_sp_l1In (orcOf O_sp_l1In) C_sp_l1In (entry A_sp_l1In I_sp_l1In x)).map (keepRet tt K_sp_l1In)).ev = ((T_sp_l1In x.1.1 x.1.2.1 x.1.2.2.1).map fun r => some ((((r, ()), ())) : K_sp_l1In.T)).ev := fun _ => by kernel_rfl
theorem o_sp_l1In : LoopsOK E_sp_l1In tt Z_sp_l1In O_sp_l1In C_sp_l1In := by
  have h : loopsOf C_sp_l1In = [] := by kernel_rfl
  unfold LoopsOK
  rw [h]
  exact fun _ h => absurd h List.not_mem_nil
theorem ok_sp_l1In : FnOK prog E_sp_l1In tt 84 D_sp_l1In K_sp_l1In Z_sp_l1In O_sp_l1In f84 C_sp_l1In (fun x => T_sp_l1In x.1.1 x.1.2.1 x.1.2.2.1) (fun r => ((r, ()), ())) where
  at_ := func84
  name := by kernel_rfl
  body := by kernel_rfl
  res := by kernel_rfl
  ok := by kernel_rfl
  arity := fun _ => Nat.le_of_ble_eq_true (by kernel_rfl)
  pin := fun _ => by kernel_rfl
  chk := by kernel_rfl
  loops := o_sp_l1In
  run := e_sp_l1In
  F := fun _ => rfl
  emb := fun _ => rfl
theorem fd_sp_l1In : FDok prog (84, D_sp_l1In) := fn_ok mixed (env_ok (fun _ h => absurd h List.not_mem_nil)) tabOK ok_sp_l1In
theorem e_sp_l2Row : ∀ x : D_sp_l2Row.T, ((acode E_sp_l2Row tt Z_sp_l2Row (orcOf O_sp_l2Row) C_sp_l2Row (entry A_sp_l2Row I_sp_l2Row x)).map (keepRet tt K_sp_l2Row)).ev = ((T_sp_l2Row x.1.1 x.1.2.1 x.1.2.2.1).map fun r => some ((((r, ()), ())) : K_sp_l2Row.T)).ev := fun _ => by kernel_rfl
noncomputable def B_sp_l2Row_0 : Code := ((loopsOf C_sp_l2Row).find? fun p => Nat.beq p.1 0).elim .skip (·.2)
theorem l_sp_l2Row_0 : (DL_sp_l2Row_0).OK E_sp_l2Row tt Z_sp_l2Row (orcOf O_sp_l2Row) B_sp_l2Row_0 where
  ok := by kernel_rfl
  oke := by kernel_rfl
  okr := by kernel_rfl
  eta := fun _ => rfl
  step := fun _ _ => by kernel_rfl
theorem o_sp_l2Row : LoopsOK E_sp_l2Row tt Z_sp_l2Row O_sp_l2Row C_sp_l2Row := by
  have h : loopsOf C_sp_l2Row = [(0, B_sp_l2Row_0)] := by kernel_rfl
  unfold LoopsOK
  rw [h]
  exact List.forall_mem_cons.2 ⟨fun d h => (by have e : some (DL_sp_l2Row_0) = some d := h; cases e; exact l_sp_l2Row_0), fun _ h => absurd h List.not_mem_nil⟩
theorem ok_sp_l2Row : FnOK prog E_sp_l2Row tt 77 D_sp_l2Row K_sp_l2Row Z_sp_l2Row O_sp_l2Row f77 C_sp_l2Row (fun x => T_sp_l2Row x.1.1 x.1.2.1 x.1.2.2.1) (fun r => ((r, ()), ())) where
  at_ := func77
  name := by kernel_rfl
  body := by kernel_rfl
  res := by kernel_rfl
  ok := by kernel_rfl
  arity := fun _ => Nat.le_of_ble_eq_true (by kernel_rfl)
  pin := fun _ => by kernel_rfl
  chk := by kernel_rfl
  loops := o_sp_l2Row
  run := e_sp_l2Row
  F := fun _ => rfl
  emb := fun _ => rfl
theorem fd_sp_l2Row : FDok prog (77, D_sp_l2Row) := fn_ok mixed (env_ok (List.forall_mem_cons.2 ⟨fd_sp_l1In, fun _ h => absurd h List.not_mem_nil⟩)) tabOK ok_sp_l2Row
theorem e_sp_l11Ground : ∀ x : D_sp_l11Ground.T, ((acode E_sp_l11Ground tt Z_sp_l11Ground (orcOf O_sp_l11Ground) C_sp_l11Ground (entry A_sp_l11Ground I_sp_l11Ground x)).map (keepRet tt K_sp_l11Ground)).ev = ((T_sp_l11Ground x.1.1).map fun r => some ((((r, ()), ())) : K_sp_l11Ground.T)).ev := fun _ => by kernel_rfl
noncomputable def B_sp_l11Ground_2 : Code := ((loopsOf C_sp_l11Ground).find? fun p => Nat.beq p.1 2).elim .skip (·.2)
theorem l_sp_l11Ground_2 : (DL_sp_l11Ground_2).OK E_sp_l11Ground tt Z_sp_l11Ground (orcOf O_sp_l11Ground) B_sp_l11Ground_2 where
  ok := by kernel_rfl
  oke := by kernel_rfl
  okr := by kernel_rfl
  eta := fun _ => rfl
  step := fun _ _ => by kernel_rfl
noncomputable def B_sp_l11Ground_0 : Code := ((loopsOf C_sp_l11Ground).find? fun p => Nat.beq p.1 0).elim .skip (·.2)
theorem l_sp_l11Ground_0 : (DL_sp_l11Ground_0).OK E_sp_l11Ground tt Z_sp_l11Ground (orcOf O_sp_l11Ground) B_sp_l11Ground_0 where
  ok := by kernel_rfl
  oke := by kernel_rfl
  okr := by kernel_rfl
  eta := fun _ => rfl
  step := fun _ _ => by kernel_rfl
theorem o_sp_l11Ground : LoopsOK E_sp_l11Ground tt Z_sp_l11Ground O_sp_l11Ground C_sp_l11Ground := by
  have h : loopsOf C_sp_l11Ground = [(0, B_sp_l11Ground_0), (2, B_sp_l11Ground_2)] := by kernel_rfl
  unfold LoopsOK
  rw [h]
  exact List.forall_mem_cons.2 ⟨fun d h => (by have e : some (DL_sp_l11Ground_0) = some d := h; cases e; exact l_sp_l11Ground_0), List.forall_mem_cons.2 ⟨fun d h => (by have e : some (DL_sp_l11Ground_2) = some d := h; cases e; exact l_sp_l11Ground_2), fun _ h => absurd h List.not_mem_nil⟩⟩
theorem ok_sp_l11Ground : FnOK prog E_sp_l11Ground tt 95 D_sp_l11Ground K_sp_l11Ground Z_sp_l11Ground O_sp_l11Ground f95 C_sp_l11Ground (fun x => T_sp_l11Ground x.1.1) (fun r => ((r, ()), ())) where
  at_ := func95
  name := by kernel_rfl
  body := by kernel_rfl
  res := by kernel_rfl
  ok := by kernel_rfl
  arity := fun _ => Nat.le_of_ble_eq_true (by kernel_rfl)
  pin := fun _ => by kernel_rfl
  chk := by kernel_rfl
  loops := o_sp_l11Ground
  run := e_sp_l11Ground
  F := fun _ => rfl
  emb := fun _ => rfl
theorem fd_sp_l11Ground : FDok prog (95, D_sp_l11Ground) := fn_ok mixed (env_ok (List.forall_mem_cons.2 ⟨fd_sp_l2Row, fun _ h => absurd h List.not_mem_nil⟩)) tabOK ok_sp_l11Ground
theorem e_sp_l11Number : ∀ x : D_sp_l11Number.T, ((acode E_sp_l11Number tt Z_sp_l11Number (orcOf O_sp_l11Number) C_sp_l11Number (entry A_sp_l11Number I_sp_l11Number x)).map (keepRet tt K_sp_l11Number)).ev = ((T_sp_l11Number x.1.1).map fun r => some ((((r, ()), ())) : K_sp_l11Number.T)).ev := fun _ => by kernel_rfl
theorem o_sp_l11Number : LoopsOK E_sp_l11Number tt Z_sp_l11Number O_sp_l11Number C_sp_l11Number := by
  have h : loopsOf C_sp_l11Number = [] := by kernel_rfl
  unfold LoopsOK
  rw [h]
  exact fun _ h => absurd h List.not_mem_nil
theorem ok_sp_l11Number : FnOK prog E_sp_l11Number tt 96 D_sp_l11Number K_sp_l11Number Z_sp_l11Number O_sp_l11Number f96 C_sp_l11Number (fun x => T_sp_l11Number x.1.1) (fun r => ((r, ()), ())) where
  at_ := func96
  name := by kernel_rfl
  body := by kernel_rfl
  res := by kernel_rfl
  ok := by kernel_rfl
  arity := fun _ => Nat.le_of_ble_eq_true (by kernel_rfl)
  pin := fun _ => by kernel_rfl
  chk := by kernel_rfl
  loops := o_sp_l11Number
  run := e_sp_l11Number
  F := fun _ => rfl
  emb := fun _ => rfl
theorem fd_sp_l11Number : FDok prog (96, D_sp_l11Number) := fn_ok mixed (env_ok (List.forall_mem_cons.2 ⟨fd_sp_l1In, fun _ h => absurd h List.not_mem_nil⟩)) tabOK ok_sp_l11Number
theorem e_sp_l1Has : ∀ x : D_sp_l1Has.T, ((acode E_sp_l1Has tt Z_sp_l1Has (orcOf O_sp_l1Has) C_sp_l1Has (entry A_sp_l1Has I_sp_l1Has x)).map (keepRet tt K_sp_l1Has)).ev = ((T_sp_l1Has x.1.1 x.1.2.1).map fun r => some ((((r, ()), ())) : K_sp_l1Has.T)).ev := fun _ => by kernel_rfl
noncomputable def B_sp_l1Has_0 : Code := ((loopsOf C_sp_l1Has).find? fun p => Nat.beq p.1 0).elim .skip (·.2)
theorem l_sp_l1Has_0 : (DL_sp_l1Has_0).OK E_sp_l1Has tt Z_sp_l1Has (orcOf O_sp_l1Has) B_sp_l1Has_0 where
  ok := by kernel_rfl
  oke := by kernel_rfl
  okr := by kernel_rfl
  eta := fun _ => rfl
  step := fun _ _ => by kernel_rfl
theorem o_sp_l1Has : LoopsOK E_sp_l1Has tt Z_sp_l1Has O_sp_l1Has C_sp_l1Has := by
  have h : loopsOf C_sp_l1Has = [(0, B_sp_l1Has_0)] := by kernel_rfl
  unfold LoopsOK
  rw [h]
  exact List.forall_mem_cons.2 ⟨fun d h => (by have e : some (DL_sp_l1Has_0) = some d := h; cases e; exact l_sp_l1Has_0), fun _ h => absurd h List.not_mem_nil⟩
theorem ok_sp_l1Has : FnOK prog E_sp_l1Has tt 72 D_sp_l1Has K_sp_l1Has Z_sp_l1Has O_sp_l1Has f72 C_sp_l1Has (fun x => T_sp_l1Has x.1.1 x.1.2.1) (fun r => ((r, ()), ())) where
  at_ := func72
  name := by kernel_rfl
  body := by kernel_rfl
  res := by kernel_rfl
  ok := by kernel_rfl
  arity := fun _ => Nat.le_of_ble_eq_true (by kernel_rfl)
  pin := fun _ => by kernel_rfl
  chk := by kernel_rfl
  loops := o_sp_l1Has
  run := e_sp_l1Has
  F := fun _ => rfl
  emb := fun _ => rfl
theorem fd_sp_l1Has : FDok prog (72, D_sp_l1Has) := fn_ok mixed (env_ok (fun _ h => absurd h List.not_mem_nil)) tabOK ok_sp_l1Has
theorem e_sp_ProvesApart : ∀ x : D_sp_ProvesApart.T, ((acode E_sp_ProvesApart tt Z_sp_ProvesApart (orcOf O_sp_ProvesApart) C_sp_ProvesApart (entry A_sp_ProvesApart I_sp_ProvesApart x)).map (keepRet tt K_sp_ProvesApart)).ev = ((T_sp_ProvesApart x.1.1 x.1.2.1 x.1.2.2.1).map fun r => some ((((r.1, (r.2, ())), ())) : K_sp_ProvesApart.T)).ev := fun _ => by kernel_rfl
noncomputable def B_sp_ProvesApart_4 : Code := ((loopsOf C_sp_ProvesApart).find? fun p => Nat.beq p.1 4).elim .skip (·.2)
theorem l_sp_ProvesApart_4 : (DL_sp_ProvesApart_4).OK E_sp_ProvesApart tt Z_sp_ProvesApart (orcOf O_sp_ProvesApart) B_sp_ProvesApart_4 where
  ok := by kernel_rfl
  oke := by kernel_rfl
  okr := by kernel_rfl
  eta := fun _ => rfl
  step := fun _ _ => by kernel_rfl
noncomputable def B_sp_ProvesApart_2 : Code := ((loopsOf C_sp_ProvesApart).find? fun p => Nat.beq p.1 2).elim .skip (·.2)
theorem l_sp_ProvesApart_2 : (DL_sp_ProvesApart_2).OK E_sp_ProvesApart tt Z_sp_ProvesApart (orcOf O_sp_ProvesApart) B_sp_ProvesApart_2 where
  ok := by kernel_rfl
  oke := by kernel_rfl
  okr := by kernel_rfl
  eta := fun _ => rfl
  step := fun _ _ => by kernel_rfl
noncomputable def B_sp_ProvesApart_0 : Code := ((loopsOf C_sp_ProvesApart).find? fun p => Nat.beq p.1 0).elim .skip (·.2)
theorem l_sp_ProvesApart_0 : (DL_sp_ProvesApart_0).OK E_sp_ProvesApart tt Z_sp_ProvesApart (orcOf O_sp_ProvesApart) B_sp_ProvesApart_0 where
  ok := by kernel_rfl
  oke := by kernel_rfl
  okr := by kernel_rfl
  eta := fun _ => rfl
  step := fun _ _ => by kernel_rfl
theorem o_sp_ProvesApart : LoopsOK E_sp_ProvesApart tt Z_sp_ProvesApart O_sp_ProvesApart C_sp_ProvesApart := by
  have h : loopsOf C_sp_ProvesApart = [(0, B_sp_ProvesApart_0), (2, B_sp_ProvesApart_2), (4, B_sp_ProvesApart_4)] := by kernel_rfl
  unfold LoopsOK
  rw [h]
  exact List.forall_mem_cons.2 ⟨fun d h => (by have e : some (DL_sp_ProvesApart_0) = some d := h; cases e; exact l_sp_ProvesApart_0), List.forall_mem_cons.2 ⟨fun d h => (by have e : some (DL_sp_ProvesApart_2) = some d := h; cases e; exact l_sp_ProvesApart_2), List.forall_mem_cons.2 ⟨fun d h => (by have e : some (DL_sp_ProvesApart_4) = some d := h; cases e; exact l_sp_ProvesApart_4), fun _ h => absurd h List.not_mem_nil⟩⟩⟩
theorem ok_sp_ProvesApart : FnOK prog E_sp_ProvesApart tt 32 D_sp_ProvesApart K_sp_ProvesApart Z_sp_ProvesApart O_sp_ProvesApart f32 C_sp_ProvesApart (fun x => T_sp_ProvesApart x.1.1 x.1.2.1 x.1.2.2.1) (fun r => ((r.1, (r.2, ())), ())) where
  at_ := func32
  name := by kernel_rfl
  body := by kernel_rfl
  res := by kernel_rfl
  ok := by kernel_rfl
  arity := fun _ => Nat.le_of_ble_eq_true (by kernel_rfl)
  pin := fun _ => by kernel_rfl
  chk := by kernel_rfl
  loops := o_sp_ProvesApart
  run := e_sp_ProvesApart
  F := fun _ => rfl
  emb := fun _ => rfl
theorem fd_sp_ProvesApart : FDok prog (32, D_sp_ProvesApart) := fn_ok mixed (env_ok (List.forall_mem_cons.2 ⟨fd_sp_l11Ground, List.forall_mem_cons.2 ⟨fd_sp_l11Number, List.forall_mem_cons.2 ⟨fd_sp_l1In, List.forall_mem_cons.2 ⟨fd_sp_l1Has, fun _ h => absurd h List.not_mem_nil⟩⟩⟩⟩)) tabOK ok_sp_ProvesApart
theorem e_slices_IndexFunc_Sint_int : ∀ x : D_slices_IndexFunc_Sint_int.T, ((acode E_slices_IndexFunc_Sint_int tt Z_slices_IndexFunc_Sint_int (orcOf O_slices_IndexFunc_Sint_int) C_slices_IndexFunc_Sint_int (entry A_slices_IndexFunc_Sint_int I_slices_IndexFunc_Sint_int x)).map (keepRet tt K_slices_IndexFunc_Sint_int)).ev = ((T_slices_IndexFunc_Sint_int x.1.1 x.1.2.1).map fun r => some ((((r, ()), ())) : K_slices_IndexFunc_Sint_int.T)).ev := fun _ => by kernel_rfl
noncomputable def B_slices_IndexFunc_Sint_int_0 : Code := ((loopsOf C_slices_IndexFunc_Sint_int).find? fun p => Nat.beq p.1 0).elim .skip (·.2)
theorem l_slices_IndexFunc_Sint_int_0 : (DL_slices_IndexFunc_Sint_int_0).OK E_slices_IndexFunc_Sint_int tt Z_slices_IndexFunc_Sint_int (orcOf O_slices_IndexFunc_Sint_int) B_slices_IndexFunc_Sint_int_0 where
  ok := by kernel_rfl
  oke := by kernel_rfl
  okr := by kernel_rfl
  eta := fun _ => rfl
  step := fun _ _ => by kernel_rfl
theorem o_slices_IndexFunc_Sint_int : LoopsOK E_slices_IndexFunc_Sint_int tt Z_slices_IndexFunc_Sint_int O_slices_IndexFunc_Sint_int C_slices_IndexFunc_Sint_int := by
  have h : loopsOf C_slices_IndexFunc_Sint_int = [(0, B_slices_IndexFunc_Sint_int_0)] := by kernel_rfl
  unfold LoopsOK
  rw [h]
  exact List.forall_mem_cons.2 ⟨fun d h => (by have e : some (DL_slices_IndexFunc_Sint_int_0) = some d := h; cases e; exact l_slices_IndexFunc_Sint_int_0), fun _ h => absurd h List.not_mem_nil⟩
theorem ok_slices_IndexFunc_Sint_int : FnOK prog E_slices_IndexFunc_Sint_int tt 152 D_slices_IndexFunc_Sint_int K_slices_IndexFunc_Sint_int Z_slices_IndexFunc_Sint_int O_slices_IndexFunc_Sint_int f152 C_slices_IndexFunc_Sint_int (fun x => T_slices_IndexFunc_Sint_int x.1.1 x.1.2.1) (fun r => ((r, ()), ())) where
  at_ := func152
  name := by kernel_rfl
  body := by kernel_rfl
  res := by kernel_rfl
  ok := by kernel_rfl
  arity := fun _ => Nat.le_of_ble_eq_true (by kernel_rfl)
  pin := fun _ => by kernel_rfl
  chk := by kernel_rfl
  loops := o_slices_IndexFunc_Sint_int
  run := e_slices_IndexFunc_Sint_int
  F := fun _ => rfl
  emb := fun _ => rfl
theorem fd_slices_IndexFunc_Sint_int : FDok prog (152, D_slices_IndexFunc_Sint_int) := fn_ok mixed (env_ok (fun _ h => absurd h List.not_mem_nil)) tabOK ok_slices_IndexFunc_Sint_int
theorem e_slices_ContainsFunc_Sint_int : ∀ x : D_slices_ContainsFunc_Sint_int.T, ((acode E_slices_ContainsFunc_Sint_int tt Z_slices_ContainsFunc_Sint_int (orcOf O_slices_ContainsFunc_Sint_int) C_slices_ContainsFunc_Sint_int (entry A_slices_ContainsFunc_Sint_int I_slices_ContainsFunc_Sint_int x)).map (keepRet tt K_slices_ContainsFunc_Sint_int)).ev = ((T_slices_ContainsFunc_Sint_int x.1.1 x.1.2.1).map fun r => some ((((r, ()), ())) : K_slices_ContainsFunc_Sint_int.T)).ev := fun _ => by kernel_rfl
theorem o_slices_ContainsFunc_Sint_int : LoopsOK E_slices_ContainsFunc_Sint_int tt Z_slices_ContainsFunc_Sint_int O_slices_ContainsFunc_Sint_int C_slices_ContainsFunc_Sint_int := by
  have h : loopsOf C_slices_ContainsFunc_Sint_int = [] := by kernel_rfl
  unfold LoopsOK
  rw [h]
  exact fun _ h => absurd h List.not_mem_nil
theorem ok_slices_ContainsFunc_Sint_int : FnOK prog E_slices_ContainsFunc_Sint_int tt 99 D_slices_ContainsFunc_Sint_int K_slices_ContainsFunc_Sint_int Z_slices_ContainsFunc_Sint_int O_slices_ContainsFunc_Sint_int f99 C_slices_ContainsFunc_Sint_int (fun x => T_slices_ContainsFunc_Sint_int x.1.1 x.1.2.1) (fun r => ((r, ()), ())) where
  at_ := func99
  name := by kernel_rfl
  body := by kernel_rfl
  res := by kernel_rfl
  ok := by kernel_rfl
  arity := fun _ => Nat.le_of_ble_eq_true (by kernel_rfl)
  pin := fun _ => by kernel_rfl
  chk := by kernel_rfl
  loops := o_slices_ContainsFunc_Sint_int
  run := e_slices_ContainsFunc_Sint_int
  F := fun _ => rfl
  emb := fun _ => rfl
theorem fd_slices_ContainsFunc_Sint_int : FDok prog (99, D_slices_ContainsFunc_Sint_int) := fn_ok mixed (env_ok (List.forall_mem_cons.2 ⟨fd_slices_IndexFunc_Sint_int, fun _ h => absurd h List.not_mem_nil⟩)) tabOK ok_slices_ContainsFunc_Sint_int
theorem e_im_between : ∀ x : D_im_between.T, ((acode E_im_between tt Z_im_between (orcOf O_im_between) C_im_between (entry A_im_between I_im_between x)).map (keepRet tt K_im_between)).ev = ((T_im_between x.1.1 x.1.2.1 x.1.2.2.1).map fun r => some ((((r, ()), ())) : K_im_between.T)).ev := fun _ => by kernel_rfl
theorem o_im_between : LoopsOK E_im_between tt Z_im_between O_im_between C_im_between := by
  have h : loopsOf C_im_between = [] := by kernel_rfl
  unfold LoopsOK
  rw [h]
  exact fun _ h => absurd h List.not_mem_nil
theorem ok_im_between : FnOK prog E_im_between tt 67 D_im_between K_im_between Z_im_between O_im_between f67 C_im_between (fun x => T_im_between x.1.1 x.1.2.1 x.1.2.2.1) (fun r => ((r, ()), ())) where
  at_ := func67
  name := by kernel_rfl
  body := by kernel_rfl
  res := by kernel_rfl
  ok := by kernel_rfl
  arity := fun _ => Nat.le_of_ble_eq_true (by kernel_rfl)
  pin := fun _ => by kernel_rfl
  chk := by kernel_rfl
  loops := o_im_between
  run := e_im_between
  F := fun _ => rfl
  emb := fun _ => rfl
theorem fd_im_between : FDok prog (67, D_im_between) := fn_ok mixed (env_ok (fun _ h => absurd h List.not_mem_nil)) tabOK ok_im_between
theorem e_im_areBetween_1 : ∀ x : D_im_areBetween_1.T, ((acode E_im_areBetween_1 tt Z_im_areBetween_1 (orcOf O_im_areBetween_1) C_im_areBetween_1 (entry A_im_areBetween_1 I_im_areBetween_1 x)).map (keepRet tt K_im_areBetween_1)).ev = ((T_im_areBetween_1 x.1.1 x.1.2.1.1 x.1.2.2.1.1).map fun r => some ((((r, ()), ())) : K_im_areBetween_1.T)).ev := fun _ => by kernel_rfl
theorem o_im_areBetween_1 : LoopsOK E_im_areBetween_1 tt Z_im_areBetween_1 O_im_areBetween_1 C_im_areBetween_1 := by
  have h : loopsOf C_im_areBetween_1 = [] := by kernel_rfl
  unfold LoopsOK
  rw [h]
  exact fun _ h => absurd h List.not_mem_nil
theorem ok_im_areBetween_1 : FnOK prog E_im_areBetween_1 tt 178 D_im_areBetween_1 K_im_areBetween_1 Z_im_areBetween_1 O_im_areBetween_1 f178 C_im_areBetween_1 (fun x => T_im_areBetween_1 x.1.1 x.1.2.1.1 x.1.2.2.1.1) (fun r => ((r, ()), ())) where
  at_ := func178
  name := by kernel_rfl
  body := by kernel_rfl
  res := by kernel_rfl
  ok := by kernel_rfl
  arity := fun _ => Nat.le_of_ble_eq_true (by kernel_rfl)
  pin := fun _ => by kernel_rfl
  chk := by kernel_rfl
  loops := o_im_areBetween_1
  run := e_im_areBetween_1
  F := fun _ => rfl
  emb := fun _ => rfl
theorem fd_im_areBetween_1 : FDok prog (178, D_im_areBetween_1) := fn_ok mixed (env_ok (List.forall_mem_cons.2 ⟨fd_im_between, fun _ h => absurd h List.not_mem_nil⟩)) tabOK ok_im_areBetween_1
theorem e_im_areBetween : ∀ x : D_im_areBetween.T, ((acode E_im_areBetween tt Z_im_areBetween (orcOf O_im_areBetween) C_im_areBetween (entry A_im_areBetween I_im_areBetween x)).map (keepRet tt K_im_areBetween)).ev = ((T_im_areBetween x.1.1 x.1.2.1 x.1.2.2.1).map fun r => some ((((r, ()), ())) : K_im_areBetween.T)).ev := fun _ => by kernel_rfl
theorem o_im_areBetween : LoopsOK E_im_areBetween tt Z_im_areBetween O_im_areBetween C_im_areBetween := by
  have h : loopsOf C_im_areBetween = [] := by kernel_rfl
  unfold LoopsOK
  rw [h]
  exact fun _ h => absurd h List.not_mem_nil
theorem ok_im_areBetween : FnOK prog E_im_areBetween tt 133 D_im_areBetween K_im_areBetween Z_im_areBetween O_im_areBetween f133 C_im_areBetween (fun x => T_im_areBetween x.1.1 x.1.2.1 x.1.2.2.1) (fun r => ((r, ()), ())) where
  at_ := func133
  name := by kernel_rfl
  body := by kernel_rfl
  res := by kernel_rfl
  ok := by kernel_rfl
  arity := fun _ => Nat.le_of_ble_eq_true (by kernel_rfl)
  pin := fun _ => by kernel_rfl
  chk := by kernel_rfl
  loops := o_im_areBetween
  run := e_im_areBetween
  F := fun _ => rfl
  emb := fun _ => rfl
theorem fd_im_areBetween : FDok prog (133, D_im_areBetween) := fn_ok mixed (env_ok (List.forall_mem_cons.2 ⟨fd_slices_ContainsFunc_Sint_int, List.forall_mem_cons.2 ⟨fd_slices_ContainsFunc_Sint_int, List.forall_mem_cons.2 ⟨fd_im_areBetween_1, fun _ h => absurd h List.not_mem_nil⟩⟩⟩)) tabOK ok_im_areBetween
theorem e_im_IsGround : ∀ x : D_im_IsGround.T, ((acode E_im_IsGround tt Z_im_IsGround (orcOf O_im_IsGround) C_im_IsGround (entry A_im_IsGround I_im_IsGround x)).map (keepRet tt K_im_IsGround)).ev = ((T_im_IsGround x.1.1).map fun r => some ((((r, ()), ())) : K_im_IsGround.T)).ev := fun _ => by kernel_rfl
noncomputable def B_im_IsGround_0 : Code := ((loopsOf C_im_IsGround).find? fun p => Nat.beq p.1 0).elim .skip (·.2)
theorem l_im_IsGround_0 : (DL_im_IsGround_0).OK E_im_IsGround tt Z_im_IsGround (orcOf O_im_IsGround) B_im_IsGround_0 where
  ok := by kernel_rfl
  oke := by kernel_rfl
  okr := by kernel_rfl
  eta := fun _ => rfl
  step := fun _ _ => by kernel_rfl
noncomputable def B_im_IsGround_4 : Code := ((loopsOf C_im_IsGround).find? fun p => Nat.beq p.1 4).elim .skip (·.2)
theorem l_im_IsGround_4 : (DL_im_IsGround_4).OK E_im_IsGround tt Z_im_IsGround (orcOf O_im_IsGround) B_im_IsGround_4 where
  ok := by kernel_rfl
  oke := by kernel_rfl
  okr := by kernel_rfl
  eta := fun _ => rfl
  step := fun _ _ => by kernel_rfl
noncomputable def B_im_IsGround_2 : Code := ((loopsOf C_im_IsGround).find? fun p => Nat.beq p.1 2).elim .skip (·.2)
theorem l_im_IsGround_2 : (DL_im_IsGround_2).OK E_im_IsGround tt Z_im_IsGround (orcOf O_im_IsGround) B_im_IsGround_2 where
  ok := by kernel_rfl
  oke := by kernel_rfl
  okr := by kernel_rfl
  eta := fun _ => rfl
  step := fun _ _ => by kernel_rfl
theorem o_im_IsGround : LoopsOK E_im_IsGround tt Z_im_IsGround O_im_IsGround C_im_IsGround := by
  have h : loopsOf C_im_IsGround = [(0, B_im_IsGround_0), (2, B_im_IsGround_2), (4, B_im_IsGround_4)] := by kernel_rfl
  unfold LoopsOK
  rw [h]
  exact List.forall_mem_cons.2 ⟨fun d h => (by have e : some (DL_im_IsGround_0) = some d := h; cases e; exact l_im_IsGround_0), List.forall_mem_cons.2 ⟨fun d h => (by have e : some (DL_im_IsGround_2) = some d := h; cases e; exact l_im_IsGround_2), List.forall_mem_cons.2 ⟨fun d h => (by have e : some (DL_im_IsGround_4) = some d := h; cases e; exact l_im_IsGround_4), fun _ h => absurd h List.not_mem_nil⟩⟩⟩
theorem ok_im_IsGround : FnOK prog E_im_IsGround tt 66 D_im_IsGround K_im_IsGround Z_im_IsGround O_im_IsGround f66 C_im_IsGround (fun x => T_im_IsGround x.1.1) (fun r => ((r, ()), ())) where
  at_ := func66
  name := by kernel_rfl
  body := by kernel_rfl
  res := by kernel_rfl
  ok := by kernel_rfl
  arity := fun _ => Nat.le_of_ble_eq_true (by kernel_rfl)
  pin := fun _ => by kernel_rfl
  chk := by kernel_rfl
  loops := o_im_IsGround
  run := e_im_IsGround
  F := fun _ => rfl
  emb := fun _ => rfl
theorem fd_im_IsGround : FDok prog (66, D_im_IsGround) := fn_ok mixed (env_ok (List.forall_mem_cons.2 ⟨fd_im_areBetween, fun _ h => absurd h List.not_mem_nil⟩)) tabOK ok_im_IsGround
theorem e_slices_Grow_Sint_int : ∀ x : D_slices_Grow_Sint_int.T, ((acode E_slices_Grow_Sint_int tt Z_slices_Grow_Sint_int (orcOf O_slices_Grow_Sint_int) C_slices_Grow_Sint_int (entry A_slices_Grow_Sint_int I_slices_Grow_Sint_int x)).map (keepRet tt K_slices_Grow_Sint_int)).ev = ((T_slices_Grow_Sint_int x.1.2.1).map fun r => some (((((), ()), (r, ()))) : K_slices_Grow_Sint_int.T)).ev := fun _ => by kernel_rfl
theorem o_slices_Grow_Sint_int : LoopsOK E_slices_Grow_Sint_int tt Z_slices_Grow_Sint_int O_slices_Grow_Sint_int C_slices_Grow_Sint_int := by
  have h : loopsOf C_slices_Grow_Sint_int = [] := by kernel_rfl
  unfold LoopsOK
  rw [h]
  exact fun _ h => absurd h List.not_mem_nil
theorem ok_slices_Grow_Sint_int : FnOK prog E_slices_Grow_Sint_int tt 151 D_slices_Grow_Sint_int K_slices_Grow_Sint_int Z_slices_Grow_Sint_int O_slices_Grow_Sint_int f151 C_slices_Grow_Sint_int (fun x => T_slices_Grow_Sint_int x.1.2.1) (fun r => (((), ()), (r, ()))) where
  at_ := func151
  name := by kernel_rfl
  body := by kernel_rfl
  res := by kernel_rfl
  ok := by kernel_rfl
  arity := fun _ => Nat.le_of_ble_eq_true (by kernel_rfl)
  pin := fun _ => by kernel_rfl
  chk := by kernel_rfl
  loops := o_slices_Grow_Sint_int
  run := e_slices_Grow_Sint_int
  F := fun _ => rfl
  emb := fun _ => rfl
theorem fd_slices_Grow_Sint_int : FDok prog (151, D_slices_Grow_Sint_int) := fn_ok mixed (env_ok (fun _ h => absurd h List.not_mem_nil)) tabOK ok_slices_Grow_Sint_int
theorem e_slices_Concat_Sint_int : ∀ x : D_slices_Concat_Sint_int.T, ((acode E_slices_Concat_Sint_int tt Z_slices_Concat_Sint_int (orcOf O_slices_Concat_Sint_int) C_slices_Concat_Sint_int (entry A_slices_Concat_Sint_int I_slices_Concat_Sint_int x)).map (keepRet tt K_slices_Concat_Sint_int)).ev = ((T_slices_Concat_Sint_int x.1.1).map fun r => some (((((), ()), (r, ()))) : K_slices_Concat_Sint_int.T)).ev := fun _ => by kernel_rfl
noncomputable def B_slices_Concat_Sint_int_0 : Code := ((loopsOf C_slices_Concat_Sint_int).find? fun p => Nat.beq p.1 0).elim .skip (·.2)
theorem l_slices_Concat_Sint_int_0 : (DL_slices_Concat_Sint_int_0).OK E_slices_Concat_Sint_int tt Z_slices_Concat_Sint_int (orcOf O_slices_Concat_Sint_int) B_slices_Concat_Sint_int_0 where
  ok := by kernel_rfl
  oke := by kernel_rfl
  okr := by kernel_rfl
  eta := fun _ => rfl
  step := fun _ _ => by kernel_rfl
noncomputable def B_slices_Concat_Sint_int_2 : Code := ((loopsOf C_slices_Concat_Sint_int).find? fun p => Nat.beq p.1 2).elim .skip (·.2)
theorem l_slices_Concat_Sint_int_2 : (DL_slices_Concat_Sint_int_2).OK E_slices_Concat_Sint_int tt Z_slices_Concat_Sint_int (orcOf O_slices_Concat_Sint_int) B_slices_Concat_Sint_int_2 where
  ok := by kernel_rfl
  oke := by kernel_rfl
  okr := by kernel_rfl
  eta := fun _ => rfl
  step := fun _ _ => by kernel_rfl
theorem o_slices_Concat_Sint_int : LoopsOK E_slices_Concat_Sint_int tt Z_slices_Concat_Sint_int O_slices_Concat_Sint_int C_slices_Concat_Sint_int := by
  have h : loopsOf C_slices_Concat_Sint_int = [(0, B_slices_Concat_Sint_int_0), (2, B_slices_Concat_Sint_int_2)] := by kernel_rfl
  unfold LoopsOK
  rw [h]
  exact List.forall_mem_cons.2 ⟨fun d h => (by have e : some (DL_slices_Concat_Sint_int_0) = some d := h; cases e; exact l_slices_Concat_Sint_int_0), List.forall_mem_cons.2 ⟨fun d h => (by have e : some (DL_slices_Concat_Sint_int_2) = some d := h; cases e; exact l_slices_Concat_Sint_int_2), fun _ h => absurd h List.not_mem_nil⟩⟩
theorem ok_slices_Concat_Sint_int : FnOK prog E_slices_Concat_Sint_int tt 98 D_slices_Concat_Sint_int K_slices_Concat_Sint_int Z_slices_Concat_Sint_int O_slices_Concat_Sint_int f98 C_slices_Concat_Sint_int (fun x => T_slices_Concat_Sint_int x.1.1) (fun r => (((), ()), (r, ()))) where
  at_ := func98
  name := by kernel_rfl
  body := by kernel_rfl
  res := by kernel_rfl
  ok := by kernel_rfl
  arity := fun _ => Nat.le_of_ble_eq_true (by kernel_rfl)
  pin := fun _ => by kernel_rfl
  chk := by kernel_rfl
  loops := o_slices_Concat_Sint_int
  run := e_slices_Concat_Sint_int
  F := fun _ => rfl
  emb := fun _ => rfl
theorem fd_slices_Concat_Sint_int : FDok prog (98, D_slices_Concat_Sint_int) := fn_ok mixed (env_ok (List.forall_mem_cons.2 ⟨fd_slices_Grow_Sint_int, fun _ h => absurd h List.not_mem_nil⟩)) tabOK ok_slices_Concat_Sint_int
theorem fd_slices_Values_Sint_int : FDok prog (150, D_slices_Values_Sint_int) := hand_values
theorem fd_slices_Collect_int : FDok prog (189, D_slices_Collect_int) := hand_collect
theorem e_math_bits_Len64 : ∀ x : D_math_bits_Len64.T, ((acode E_math_bits_Len64 tt Z_math_bits_Len64 (orcOf O_math_bits_Len64) C_math_bits_Len64 (entry A_math_bits_Len64 I_math_bits_Len64 x)).map (keepRet tt K_math_bits_Len64)).ev = ((T_math_bits_Len64 x.1.1).map fun r => some ((((r, ()), ())) : K_math_bits_Len64.T)).ev := fun _ => by kernel_rfl
theorem o_math_bits_Len64 : LoopsOK E_math_bits_Len64 tt Z_math_bits_Len64 O_math_bits_Len64 C_math_bits_Len64 := by
  have h : loopsOf C_math_bits_Len64 = [] := by kernel_rfl
  unfold LoopsOK
  rw [h]
  exact fun _ h => absurd h List.not_mem_nil
theorem ok_math_bits_Len64 : FnOK prog E_math_bits_Len64 tt 216 D_math_bits_Len64 K_math_bits_Len64 Z_math_bits_Len64 O_math_bits_Len64 f216 C_math_bits_Len64 (fun x => T_math_bits_Len64 x.1.1) (fun r => ((r, ()), ())) where
  at_ := func216
  name := by kernel_rfl
  body := by kernel_rfl
  res := by kernel_rfl
  ok := by kernel_rfl
  arity := fun _ => Nat.le_of_ble_eq_true (by kernel_rfl)
  pin := fun _ => by kernel_rfl
  chk := by kernel_rfl
  loops := o_math_bits_Len64
  run := e_math_bits_Len64
  F := fun _ => rfl
  emb := fun _ => rfl
theorem fd_math_bits_Len64 : FDok prog (216, D_math_bits_Len64) := fn_ok mixed (env_ok (fun _ h => absurd h List.not_mem_nil)) tabOK ok_math_bits_Len64
theorem e_math_bits_Len : ∀ x : D_math_bits_Len.T, ((acode E_math_bits_Len tt Z_math_bits_Len (orcOf O_math_bits_Len) C_math_bits_Len (entry A_math_bits_Len I_math_bits_Len x)).map (keepRet tt K_math_bits_Len)).ev = ((T_math_bits_Len x.1.1).map fun r => some ((((r, ()), ())) : K_math_bits_Len.T)).ev := fun _ => by kernel_rfl
theorem o_math_bits_Len : LoopsOK E_math_bits_Len tt Z_math_bits_Len O_math_bits_Len C_math_bits_Len := by
  have h : loopsOf C_math_bits_Len = [] := by kernel_rfl
  unfold LoopsOK
  rw [h]
  exact fun _ h => absurd h List.not_mem_nil
theorem ok_math_bits_Len : FnOK prog E_math_bits_Len tt 186 D_math_bits_Len K_math_bits_Len Z_math_bits_Len O_math_bits_Len f186 C_math_bits_Len (fun x => T_math_bits_Len x.1.1) (fun r => ((r, ()), ())) where
  at_ := func186
  name := by kernel_rfl
  body := by kernel_rfl
  res := by kernel_rfl
  ok := by kernel_rfl
  arity := fun _ => Nat.le_of_ble_eq_true (by kernel_rfl)
  pin := fun _ => by kernel_rfl
  chk := by kernel_rfl
  loops := o_math_bits_Len
  run := e_math_bits_Len
  F := fun _ => rfl
  emb := fun _ => rfl
theorem fd_math_bits_Len : FDok prog (186, D_math_bits_Len) := fn_ok mixed (env_ok (List.forall_mem_cons.2 ⟨fd_math_bits_Len64, fun _ h => absurd h List.not_mem_nil⟩)) tabOK ok_math_bits_Len
theorem e_cmp_isNaN_int : ∀ x : D_cmp_isNaN_int.T, ((acode E_cmp_isNaN_int tt Z_cmp_isNaN_int (orcOf O_cmp_isNaN_int) C_cmp_isNaN_int (entry A_cmp_isNaN_int I_cmp_isNaN_int x)).map (keepRet tt K_cmp_isNaN_int)).ev = ((T_cmp_isNaN_int x.1.1).map fun r => some ((((r, ()), ())) : K_cmp_isNaN_int.T)).ev := fun _ => by kernel_rfl
theorem o_cmp_isNaN_int : LoopsOK E_cmp_isNaN_int tt Z_cmp_isNaN_int O_cmp_isNaN_int C_cmp_isNaN_int := by
  have h : loopsOf C_cmp_isNaN_int = [] := by kernel_rfl
  unfold LoopsOK
  rw [h]
  exact fun _ h => absurd h List.not_mem_nil
theorem ok_cmp_isNaN_int : FnOK prog E_cmp_isNaN_int tt 195 D_cmp_isNaN_int K_cmp_isNaN_int Z_cmp_isNaN_int O_cmp_isNaN_int f195 C_cmp_isNaN_int (fun x => T_cmp_isNaN_int x.1.1) (fun r => ((r, ()), ())) where
  at_ := func195
  name := by kernel_rfl
  body := by kernel_rfl
  res := by kernel_rfl
  ok := by kernel_rfl
  arity := fun _ => Nat.le_of_ble_eq_true (by kernel_rfl)
  pin := fun _ => by kernel_rfl
  chk := by kernel_rfl
  loops := o_cmp_isNaN_int
  run := e_cmp_isNaN_int
  F := fun _ => rfl
  emb := fun _ => rfl
theorem fd_cmp_isNaN_int : FDok prog (195, D_cmp_isNaN_int) := fn_ok mixed (env_ok (fun _ h => absurd h List.not_mem_nil)) tabOK ok_cmp_isNaN_int
theorem e_cmp_Less_int : ∀ x : D_cmp_Less_int.T, ((acode E_cmp_Less_int tt Z_cmp_Less_int (orcOf O_cmp_Less_int) C_cmp_Less_int (entry A_cmp_Less_int I_cmp_Less_int x)).map (keepRet tt K_cmp_Less_int)).ev = ((T_cmp_Less_int x.1.1 x.1.2.1).map fun r => some ((((r, ()), ())) : K_cmp_Less_int.T)).ev := fun _ => by kernel_rfl
theorem o_cmp_Less_int : LoopsOK E_cmp_Less_int tt Z_cmp_Less_int O_cmp_Less_int C_cmp_Less_int := by
  have h : loopsOf C_cmp_Less_int = [] := by kernel_rfl
  unfold LoopsOK
  rw [h]
  exact fun _ h => absurd h List.not_mem_nil
theorem ok_cmp_Less_int : FnOK prog E_cmp_Less_int tt 212 D_cmp_Less_int K_cmp_Less_int Z_cmp_Less_int O_cmp_Less_int f212 C_cmp_Less_int (fun x => T_cmp_Less_int x.1.1 x.1.2.1) (fun r => ((r, ()), ())) where
  at_ := func212
  name := by kernel_rfl
  body := by kernel_rfl
  res := by kernel_rfl
  ok := by kernel_rfl
  arity := fun _ => Nat.le_of_ble_eq_true (by kernel_rfl)
  pin := fun _ => by kernel_rfl
  chk := by kernel_rfl
  loops := o_cmp_Less_int
  run := e_cmp_Less_int
  F := fun _ => rfl
  emb := fun _ => rfl
theorem fd_cmp_Less_int : FDok prog (212, D_cmp_Less_int) := fn_ok mixed (env_ok (List.forall_mem_cons.2 ⟨fd_cmp_isNaN_int, fun _ h => absurd h List.not_mem_nil⟩)) tabOK ok_cmp_Less_int
theorem e_slices_insertionSortOrdered_int : ∀ x : D_slices_insertionSortOrdered_int.T, ((acode E_slices_insertionSortOrdered_int tt Z_slices_insertionSortOrdered_int (orcOf O_slices_insertionSortOrdered_int) C_slices_insertionSortOrdered_int (entry A_slices_insertionSortOrdered_int I_slices_insertionSortOrdered_int x)).map (keepRet tt K_slices_insertionSortOrdered_int)).ev = ((T_slices_insertionSortOrdered_int x.1.2.1 x.1.2.2.1 x.2.1).map fun r => some ((((), (r, ()))) : K_slices_insertionSortOrdered_int.T)).ev := fun _ => by kernel_rfl
noncomputable def B_slices_insertionSortOrdered_int_2 : Code := ((loopsOf C_slices_insertionSortOrdered_int).find? fun p => Nat.beq p.1 2).elim .skip (·.2)
theorem l_slices_insertionSortOrdered_int_2 : (DL_slices_insertionSortOrdered_int_2).OK E_slices_insertionSortOrdered_int tt Z_slices_insertionSortOrdered_int (orcOf O_slices_insertionSortOrdered_int) B_slices_insertionSortOrdered_int_2 where
  ok := by kernel_rfl
  oke := by kernel_rfl
  okr := by kernel_rfl
  eta := fun _ => rfl
  step := fun _ _ => by kernel_rfl
noncomputable def B_slices_insertionSortOrdered_int_0 : Code := ((loopsOf C_slices_insertionSortOrdered_int).find? fun p => Nat.beq p.1 0).elim .skip (·.2)
theorem l_slices_insertionSortOrdered_int_0 : (DL_slices_insertionSortOrdered_int_0).OK E_slices_insertionSortOrdered_int tt Z_slices_insertionSortOrdered_int (orcOf O_slices_insertionSortOrdered_int) B_slices_insertionSortOrdered_int_0 where
  ok := by kernel_rfl
  oke := by kernel_rfl
  okr := by kernel_rfl
  eta := fun _ => rfl
  step := fun _ _ => by kernel_rfl
theorem o_slices_insertionSortOrdered_int : LoopsOK E_slices_insertionSortOrdered_int tt Z_slices_insertionSortOrdered_int O_slices_insertionSortOrdered_int C_slices_insertionSortOrdered_int := by
  have h : loopsOf C_slices_insertionSortOrdered_int = [(0, B_slices_insertionSortOrdered_int_0), (2, B_slices_insertionSortOrdered_int_2)] := by kernel_rfl
  unfold LoopsOK
  rw [h]
  exact List.forall_mem_cons.2 ⟨fun d h => (by have e : some (DL_slices_insertionSortOrdered_int_0) = some d := h; cases e; exact l_slices_insertionSortOrdered_int_0), List.forall_mem_cons.2 ⟨fun d h => (by have e : some (DL_slices_insertionSortOrdered_int_2) = some d := h; cases e; exact l_slices_insertionSortOrdered_int_2), fun _ h => absurd h List.not_mem_nil⟩⟩
theorem ok_slices_insertionSortOrdered_int : FnOK prog E_slices_insertionSortOrdered_int tt 206 D_slices_insertionSortOrdered_int K_slices_insertionSortOrdered_int Z_slices_insertionSortOrdered_int O_slices_insertionSortOrdered_int f206 C_slices_insertionSortOrdered_int (fun x => T_slices_insertionSortOrdered_int x.1.2.1 x.1.2.2.1 x.2.1) (fun r => ((), (r, ()))) where
  at_ := func206
  name := by kernel_rfl
  body := by kernel_rfl
  res := by kernel_rfl
  ok := by kernel_rfl
  arity := fun _ => Nat.le_of_ble_eq_true (by kernel_rfl)
  pin := fun _ => by kernel_rfl
  chk := by kernel_rfl
  loops := o_slices_insertionSortOrdered_int
  run := e_slices_insertionSortOrdered_int
  F := fun _ => rfl
  emb := fun _ => rfl
theorem fd_slices_insertionSortOrdered_int : FDok prog (206, D_slices_insertionSortOrdered_int) := fn_ok mixed (env_ok (List.forall_mem_cons.2 ⟨fd_cmp_Less_int, fun _ h => absurd h List.not_mem_nil⟩)) tabOK ok_slices_insertionSortOrdered_int
theorem e_slices_nextPowerOfTwo : ∀ x : D_slices_nextPowerOfTwo.T, ((acode E_slices_nextPowerOfTwo tt Z_slices_nextPowerOfTwo (orcOf O_slices_nextPowerOfTwo) C_slices_nextPowerOfTwo (entry A_slices_nextPowerOfTwo I_slices_nextPowerOfTwo x)).map (keepRet tt K_slices_nextPowerOfTwo)).ev = ((T_slices_nextPowerOfTwo x.1.1).map fun r => some ((((r, ()), ())) : K_slices_nextPowerOfTwo.T)).ev := fun _ => by kernel_rfl
theorem o_slices_nextPowerOfTwo : LoopsOK E_slices_nextPowerOfTwo tt Z_slices_nextPowerOfTwo O_slices_nextPowerOfTwo C_slices_nextPowerOfTwo := by
  have h : loopsOf C_slices_nextPowerOfTwo = [] := by kernel_rfl
  unfold LoopsOK
  rw [h]
  exact fun _ h => absurd h List.not_mem_nil
theorem ok_slices_nextPowerOfTwo : FnOK prog E_slices_nextPowerOfTwo tt 238 D_slices_nextPowerOfTwo K_slices_nextPowerOfTwo Z_slices_nextPowerOfTwo O_slices_nextPowerOfTwo f238 C_slices_nextPowerOfTwo (fun x => T_slices_nextPowerOfTwo x.1.1) (fun r => ((r, ()), ())) where
  at_ := func238
  name := by kernel_rfl
  body := by kernel_rfl
  res := by kernel_rfl
  ok := by kernel_rfl
  arity := fun _ => Nat.le_of_ble_eq_true (by kernel_rfl)
  pin := fun _ => by kernel_rfl
  chk := by kernel_rfl
  loops := o_slices_nextPowerOfTwo
  run := e_slices_nextPowerOfTwo
  F := fun _ => rfl
  emb := fun _ => rfl
theorem fd_slices_nextPowerOfTwo : FDok prog (238, D_slices_nextPowerOfTwo) := fn_ok mixed (env_ok (List.forall_mem_cons.2 ⟨fd_math_bits_Len, fun _ h => absurd h List.not_mem_nil⟩)) tabOK ok_slices_nextPowerOfTwo
theorem e_slices_xorshift_Next : ∀ x : D_slices_xorshift_Next.T, ((acode E_slices_xorshift_Next tt Z_slices_xorshift_Next (orcOf O_slices_xorshift_Next) C_slices_xorshift_Next (entry A_slices_xorshift_Next I_slices_xorshift_Next x)).map (keepRet tt K_slices_xorshift_Next)).ev = ((T_slices_xorshift_Next x.2.1.1).map fun r => some ((((r.1, ()), ((r.2, ()), ()))) : K_slices_xorshift_Next.T)).ev := fun _ => by kernel_rfl
theorem o_slices_xorshift_Next : LoopsOK E_slices_xorshift_Next tt Z_slices_xorshift_Next O_slices_xorshift_Next C_slices_xorshift_Next := by
  have h : loopsOf C_slices_xorshift_Next = [] := by kernel_rfl
  unfold LoopsOK
  rw [h]
  exact fun _ h => absurd h List.not_mem_nil
theorem ok_slices_xorshift_Next : FnOK prog E_slices_xorshift_Next tt 239 D_slices_xorshift_Next K_slices_xorshift_Next Z_slices_xorshift_Next O_slices_xorshift_Next f239 C_slices_xorshift_Next (fun x => T_slices_xorshift_Next x.2.1.1) (fun r => ((r.1, ()), ((r.2, ()), ()))) where
  at_ := func239
  name := by kernel_rfl
  body := by kernel_rfl
  res := by kernel_rfl
  ok := by kernel_rfl
  arity := fun _ => Nat.le_of_ble_eq_true (by kernel_rfl)
  pin := fun _ => by kernel_rfl
  chk := by kernel_rfl
  loops := o_slices_xorshift_Next
  run := e_slices_xorshift_Next
  F := fun _ => rfl
  emb := fun _ => rfl
theorem fd_slices_xorshift_Next : FDok prog (239, D_slices_xorshift_Next) := fn_ok mixed (env_ok (fun _ h => absurd h List.not_mem_nil)) tabOK ok_slices_xorshift_Next
theorem e_slices_breakPatternsOrdered_int : ∀ x : D_slices_breakPatternsOrdered_int.T, ((acode E_slices_breakPatternsOrdered_int tt Z_slices_breakPatternsOrdered_int (orcOf O_slices_breakPatternsOrdered_int) C_slices_breakPatternsOrdered_int (entry A_slices_breakPatternsOrdered_int I_slices_breakPatternsOrdered_int x)).map (keepRet tt K_slices_breakPatternsOrdered_int)).ev = ((T_slices_breakPatternsOrdered_int x.1.2.1 x.1.2.2.1 x.2.1).map fun r => some ((((), (r, ()))) : K_slices_breakPatternsOrdered_int.T)).ev := fun _ => by kernel_rfl
noncomputable def B_slices_breakPatternsOrdered_int_0 : Code := ((loopsOf C_slices_breakPatternsOrdered_int).find? fun p => Nat.beq p.1 0).elim .skip (·.2)
theorem l_slices_breakPatternsOrdered_int_0 : (DL_slices_breakPatternsOrdered_int_0).OK E_slices_breakPatternsOrdered_int tt Z_slices_breakPatternsOrdered_int (orcOf O_slices_breakPatternsOrdered_int) B_slices_breakPatternsOrdered_int_0 where
  ok := by kernel_rfl
  oke := by kernel_rfl
  okr := by kernel_rfl
  eta := fun _ => rfl
  step := fun _ _ => by kernel_rfl
theorem o_slices_breakPatternsOrdered_int : LoopsOK E_slices_breakPatternsOrdered_int tt Z_slices_breakPatternsOrdered_int O_slices_breakPatternsOrdered_int C_slices_breakPatternsOrdered_int := by
  have h : loopsOf C_slices_breakPatternsOrdered_int = [(0, B_slices_breakPatternsOrdered_int_0)] := by kernel_rfl
  unfold LoopsOK
  rw [h]
  exact List.forall_mem_cons.2 ⟨fun d h => (by have e : some (DL_slices_breakPatternsOrdered_int_0) = some d := h; cases e; exact l_slices_breakPatternsOrdered_int_0), fun _ h => absurd h List.not_mem_nil⟩
theorem ok_slices_breakPatternsOrdered_int : FnOK prog E_slices_breakPatternsOrdered_int tt 208 D_slices_breakPatternsOrdered_int K_slices_breakPatternsOrdered_int Z_slices_breakPatternsOrdered_int O_slices_breakPatternsOrdered_int f208 C_slices_breakPatternsOrdered_int (fun x => T_slices_breakPatternsOrdered_int x.1.2.1 x.1.2.2.1 x.2.1) (fun r => ((), (r, ()))) where
  at_ := func208
  name := by kernel_rfl
  body := by kernel_rfl
  res := by kernel_rfl
  ok := by kernel_rfl
  arity := fun _ => Nat.le_of_ble_eq_true (by kernel_rfl)
  pin := fun _ => by kernel_rfl
  chk := by kernel_rfl
  loops := o_slices_breakPatternsOrdered_int
  run := e_slices_breakPatternsOrdered_int
  F := fun _ => rfl
  emb := fun _ => rfl
theorem fd_slices_breakPatternsOrdered_int : FDok prog (208, D_slices_breakPatternsOrdered_int) := fn_ok mixed (env_ok (List.forall_mem_cons.2 ⟨fd_slices_nextPowerOfTwo, List.forall_mem_cons.2 ⟨fd_slices_xorshift_Next, fun _ h => absurd h List.not_mem_nil⟩⟩)) tabOK ok_slices_breakPatternsOrdered_int
theorem e_slices_order2Ordered_int : ∀ x : D_slices_order2Ordered_int.T, ((acode E_slices_order2Ordered_int tt Z_slices_order2Ordered_int (orcOf O_slices_order2Ordered_int) C_slices_order2Ordered_int (entry A_slices_order2Ordered_int I_slices_order2Ordered_int x)).map (keepRet tt K_slices_order2Ordered_int)).ev = ((T_slices_order2Ordered_int x.1.1 x.1.2.1 x.1.2.2.1 x.2.1.1).map fun r => some ((((r.1, (r.2.1, ())), ((r.2.2, ()), ()))) : K_slices_order2Ordered_int.T)).ev := fun _ => by kernel_rfl
theorem o_slices_order2Ordered_int : LoopsOK E_slices_order2Ordered_int tt Z_slices_order2Ordered_int O_slices_order2Ordered_int C_slices_order2Ordered_int := by
  have h : loopsOf C_slices_order2Ordered_int = [] := by kernel_rfl
  unfold LoopsOK
  rw [h]
  exact fun _ h => absurd h List.not_mem_nil
theorem ok_slices_order2Ordered_int : FnOK prog E_slices_order2Ordered_int tt 255 D_slices_order2Ordered_int K_slices_order2Ordered_int Z_slices_order2Ordered_int O_slices_order2Ordered_int f255 C_slices_order2Ordered_int (fun x => T_slices_order2Ordered_int x.1.1 x.1.2.1 x.1.2.2.1 x.2.1.1) (fun r => ((r.1, (r.2.1, ())), ((r.2.2, ()), ()))) where
  at_ := func255
  name := by kernel_rfl
  body := by kernel_rfl
  res := by kernel_rfl
  ok := by kernel_rfl
  arity := fun _ => Nat.le_of_ble_eq_true (by kernel_rfl)
  pin := fun _ => by kernel_rfl
  chk := by kernel_rfl
  loops := o_slices_order2Ordered_int
  run := e_slices_order2Ordered_int
  F := fun _ => rfl
  emb := fun _ => rfl
theorem fd_slices_order2Ordered_int : FDok prog (255, D_slices_order2Ordered_int) := fn_ok mixed (env_ok (List.forall_mem_cons.2 ⟨fd_cmp_Less_int, fun _ h => absurd h List.not_mem_nil⟩)) tabOK ok_slices_order2Ordered_int
theorem e_slices_medianOrdered_int : ∀ x : D_slices_medianOrdered_int.T, ((acode E_slices_medianOrdered_int tt Z_slices_medianOrdered_int (orcOf O_slices_medianOrdered_int) C_slices_medianOrdered_int (entry A_slices_medianOrdered_int I_slices_medianOrdered_int x)).map (keepRet tt K_slices_medianOrdered_int)).ev = ((T_slices_medianOrdered_int x.1.1 x.1.2.1 x.1.2.2.1 x.1.2.2.2.1 x.2.1.1).map fun r => some ((((r.1, ()), ((r.2, ()), ()))) : K_slices_medianOrdered_int.T)).ev := fun _ => by kernel_rfl
theorem o_slices_medianOrdered_int : LoopsOK E_slices_medianOrdered_int tt Z_slices_medianOrdered_int O_slices_medianOrdered_int C_slices_medianOrdered_int := by
  have h : loopsOf C_slices_medianOrdered_int = [] := by kernel_rfl
  unfold LoopsOK
  rw [h]
  exact fun _ h => absurd h List.not_mem_nil
theorem ok_slices_medianOrdered_int : FnOK prog E_slices_medianOrdered_int tt 241 D_slices_medianOrdered_int K_slices_medianOrdered_int Z_slices_medianOrdered_int O_slices_medianOrdered_int f241 C_slices_medianOrdered_int (fun x => T_slices_medianOrdered_int x.1.1 x.1.2.1 x.1.2.2.1 x.1.2.2.2.1 x.2.1.1) (fun r => ((r.1, ()), ((r.2, ()), ()))) where
  at_ := func241
  name := by kernel_rfl
  body := by kernel_rfl
  res := by kernel_rfl
  ok := by kernel_rfl
  arity := fun _ => Nat.le_of_ble_eq_true (by kernel_rfl)
  pin := fun _ => by kernel_rfl
  chk := by kernel_rfl
  loops := o_slices_medianOrdered_int
  run := e_slices_medianOrdered_int
  F := fun _ => rfl
  emb := fun _ => rfl
theorem fd_slices_medianOrdered_int : FDok prog (241, D_slices_medianOrdered_int) := fn_ok mixed (env_ok (List.forall_mem_cons.2 ⟨fd_slices_order2Ordered_int, fun _ h => absurd h List.not_mem_nil⟩)) tabOK ok_slices_medianOrdered_int
theorem e_slices_medianAdjacentOrdered_int : ∀ x : D_slices_medianAdjacentOrdered_int.T, ((acode E_slices_medianAdjacentOrdered_int tt Z_slices_medianAdjacentOrdered_int (orcOf O_slices_medianAdjacentOrdered_int) C_slices_medianAdjacentOrdered_int (entry A_slices_medianAdjacentOrdered_int I_slices_medianAdjacentOrdered_int x)).map (keepRet tt K_slices_medianAdjacentOrdered_int)).ev = ((T_slices_medianAdjacentOrdered_int x.1.1 x.1.2.1 x.2.1.1).map fun r => some ((((r.1, ()), ((r.2, ()), ()))) : K_slices_medianAdjacentOrdered_int.T)).ev := fun _ => by kernel_rfl
theorem o_slices_medianAdjacentOrdered_int : LoopsOK E_slices_medianAdjacentOrdered_int tt Z_slices_medianAdjacentOrdered_int O_slices_medianAdjacentOrdered_int C_slices_medianAdjacentOrdered_int := by
  have h : loopsOf C_slices_medianAdjacentOrdered_int = [] := by kernel_rfl
  unfold LoopsOK
  rw [h]
  exact fun _ h => absurd h List.not_mem_nil
theorem ok_slices_medianAdjacentOrdered_int : FnOK prog E_slices_medianAdjacentOrdered_int tt 240 D_slices_medianAdjacentOrdered_int K_slices_medianAdjacentOrdered_int Z_slices_medianAdjacentOrdered_int O_slices_medianAdjacentOrdered_int f240 C_slices_medianAdjacentOrdered_int (fun x => T_slices_medianAdjacentOrdered_int x.1.1 x.1.2.1 x.2.1.1) (fun r => ((r.1, ()), ((r.2, ()), ()))) where
  at_ := func240
  name := by kernel_rfl
  body := by kernel_rfl
  res := by kernel_rfl
  ok := by kernel_rfl
  arity := fun _ => Nat.le_of_ble_eq_true (by kernel_rfl)
  pin := fun _ => by kernel_rfl
  chk := by kernel_rfl
  loops := o_slices_medianAdjacentOrdered_int
  run := e_slices_medianAdjacentOrdered_int
  F := fun _ => rfl
  emb := fun _ => rfl
theorem fd_slices_medianAdjacentOrdered_int : FDok prog (240, D_slices_medianAdjacentOrdered_int) := fn_ok mixed (env_ok (List.forall_mem_cons.2 ⟨fd_slices_medianOrdered_int, fun _ h => absurd h List.not_mem_nil⟩)) tabOK ok_slices_medianAdjacentOrdered_int
theorem e_slices_choosePivotOrdered_int : ∀ x : D_slices_choosePivotOrdered_int.T, ((acode E_slices_choosePivotOrdered_int tt Z_slices_choosePivotOrdered_int (orcOf O_slices_choosePivotOrdered_int) C_slices_choosePivotOrdered_int (entry A_slices_choosePivotOrdered_int I_slices_choosePivotOrdered_int x)).map (keepRet tt K_slices_choosePivotOrdered_int)).ev = ((T_slices_choosePivotOrdered_int x.1.1 x.1.2.1 x.1.2.2.1).map fun r => some ((((r.1, (r.2, ())), ())) : K_slices_choosePivotOrdered_int.T)).ev := fun _ => by kernel_rfl
theorem o_slices_choosePivotOrdered_int : LoopsOK E_slices_choosePivotOrdered_int tt Z_slices_choosePivotOrdered_int O_slices_choosePivotOrdered_int C_slices_choosePivotOrdered_int := by
  have h : loopsOf C_slices_choosePivotOrdered_int = [] := by kernel_rfl
  unfold LoopsOK
  rw [h]
  exact fun _ h => absurd h List.not_mem_nil
theorem ok_slices_choosePivotOrdered_int : FnOK prog E_slices_choosePivotOrdered_int tt 209 D_slices_choosePivotOrdered_int K_slices_choosePivotOrdered_int Z_slices_choosePivotOrdered_int O_slices_choosePivotOrdered_int f209 C_slices_choosePivotOrdered_int (fun x => T_slices_choosePivotOrdered_int x.1.1 x.1.2.1 x.1.2.2.1) (fun r => ((r.1, (r.2, ())), ())) where
  at_ := func209
  name := by kernel_rfl
  body := by kernel_rfl
  res := by kernel_rfl
  ok := by kernel_rfl
  arity := fun _ => Nat.le_of_ble_eq_true (by kernel_rfl)
  pin := fun _ => by kernel_rfl
  chk := by kernel_rfl
  loops := o_slices_choosePivotOrdered_int
  run := e_slices_choosePivotOrdered_int
  F := fun _ => rfl
  emb := fun _ => rfl
theorem fd_slices_choosePivotOrdered_int : FDok prog (209, D_slices_choosePivotOrdered_int) := fn_ok mixed (env_ok (List.forall_mem_cons.2 ⟨fd_slices_medianAdjacentOrdered_int, List.forall_mem_cons.2 ⟨fd_slices_medianOrdered_int, fun _ h => absurd h List.not_mem_nil⟩⟩)) tabOK ok_slices_choosePivotOrdered_int
theorem e_slices_partitionOrdered_int : ∀ x : D_slices_partitionOrdered_int.T, ((acode E_slices_partitionOrdered_int tt Z_slices_partitionOrdered_int (orcOf O_slices_partitionOrdered_int) C_slices_partitionOrdered_int (entry A_slices_partitionOrdered_int I_slices_partitionOrdered_int x)).map (keepRet tt K_slices_partitionOrdered_int)).ev = ((T_slices_partitionOrdered_int x.1.2.1 x.1.2.2.1 x.1.2.2.2.1 x.2.1).map fun r => some ((((r.1, (r.2.1, ())), (r.2.2, ()))) : K_slices_partitionOrdered_int.T)).ev := fun _ => by kernel_rfl
noncomputable def B_slices_partitionOrdered_int_0 : Code := ((loopsOf C_slices_partitionOrdered_int).find? fun p => Nat.beq p.1 0).elim .skip (·.2)
theorem l_slices_partitionOrdered_int_0 : (DL_slices_partitionOrdered_int_0).OK E_slices_partitionOrdered_int tt Z_slices_partitionOrdered_int (orcOf O_slices_partitionOrdered_int) B_slices_partitionOrdered_int_0 where
  ok := by kernel_rfl
  oke := by kernel_rfl
  okr := by kernel_rfl
  eta := fun _ => rfl
  step := fun _ _ => by kernel_rfl
noncomputable def B_slices_partitionOrdered_int_2 : Code := ((loopsOf C_slices_partitionOrdered_int).find? fun p => Nat.beq p.1 2).elim .skip (·.2)
theorem l_slices_partitionOrdered_int_2 : (DL_slices_partitionOrdered_int_2).OK E_slices_partitionOrdered_int tt Z_slices_partitionOrdered_int (orcOf O_slices_partitionOrdered_int) B_slices_partitionOrdered_int_2 where
  ok := by kernel_rfl
  oke := by kernel_rfl
  okr := by kernel_rfl
  eta := fun _ => rfl
  step := fun _ _ => by kernel_rfl
noncomputable def B_slices_partitionOrdered_int_6 : Code := ((loopsOf C_slices_partitionOrdered_int).find? fun p => Nat.beq p.1 6).elim .skip (·.2)
theorem l_slices_partitionOrdered_int_6 : (DL_slices_partitionOrdered_int_6).OK E_slices_partitionOrdered_int tt Z_slices_partitionOrdered_int (orcOf O_slices_partitionOrdered_int) B_slices_partitionOrdered_int_6 where
  ok := by kernel_rfl
  oke := by kernel_rfl
  okr := by kernel_rfl
  eta := fun _ => rfl
  step := fun _ _ => by kernel_rfl
noncomputable def B_slices_partitionOrdered_int_8 : Code := ((loopsOf C_slices_partitionOrdered_int).find? fun p => Nat.beq p.1 8).elim .skip (·.2)
theorem l_slices_partitionOrdered_int_8 : (DL_slices_partitionOrdered_int_8).OK E_slices_partitionOrdered_int tt Z_slices_partitionOrdered_int (orcOf O_slices_partitionOrdered_int) B_slices_partitionOrdered_int_8 where
  ok := by kernel_rfl
  oke := by kernel_rfl
  okr := by kernel_rfl
  eta := fun _ => rfl
  step := fun _ _ => by kernel_rfl
noncomputable def B_slices_partitionOrdered_int_4 : Code := ((loopsOf C_slices_partitionOrdered_int).find? fun p => Nat.beq p.1 4).elim .skip (·.2)
theorem l_slices_partitionOrdered_int_4 : (DL_slices_partitionOrdered_int_4).OK E_slices_partitionOrdered_int tt Z_slices_partitionOrdered_int (orcOf O_slices_partitionOrdered_int) B_slices_partitionOrdered_int_4 where
  ok := by kernel_rfl
  oke := by kernel_rfl
  okr := by kernel_rfl
  eta := fun _ => rfl
  step := fun _ _ => by kernel_rfl
theorem o_slices_partitionOrdered_int : LoopsOK E_slices_partitionOrdered_int tt Z_slices_partitionOrdered_int O_slices_partitionOrdered_int C_slices_partitionOrdered_int := by
  have h : loopsOf C_slices_partitionOrdered_int = [(0, B_slices_partitionOrdered_int_0), (2, B_slices_partitionOrdered_int_2), (4, B_slices_partitionOrdered_int_4), (6, B_slices_partitionOrdered_int_6), (8, B_slices_partitionOrdered_int_8)] := by kernel_rfl
  unfold LoopsOK
  rw [h]
  exact List.forall_mem_cons.2 ⟨fun d h => (by have e : some (DL_slices_partitionOrdered_int_0) = some d := h; cases e; exact l_slices_partitionOrdered_int_0), List.forall_mem_cons.2 ⟨fun d h => (by have e : some (DL_slices_partitionOrdered_int_2) = some d := h; cases e; exact l_slices_partitionOrdered_int_2), List.forall_mem_cons.2 ⟨fun d h => (by have e : some (DL_slices_partitionOrdered_int_4) = some d := h; cases e; exact l_slices_partitionOrdered_int_4), List.forall_mem_cons.2 ⟨fun d h => (by have e : some (DL_slices_partitionOrdered_int_6) = some d := h; cases e; exact l_slices_partitionOrdered_int_6), List.forall_mem_cons.2 ⟨fun d h => (by have e : some (DL_slices_partitionOrdered_int_8) = some d := h; cases e; exact l_slices_partitionOrdered_int_8), fun _ h => absurd h List.not_mem_nil⟩⟩⟩⟩⟩
theorem ok_slices_partitionOrdered_int : FnOK prog E_slices_partitionOrdered_int tt 214 D_slices_partitionOrdered_int K_slices_partitionOrdered_int Z_slices_partitionOrdered_int O_slices_partitionOrdered_int f214 C_slices_partitionOrdered_int (fun x => T_slices_partitionOrdered_int x.1.2.1 x.1.2.2.1 x.1.2.2.2.1 x.2.1) (fun r => ((r.1, (r.2.1, ())), (r.2.2, ()))) where
  at_ := func214
  name := by kernel_rfl
  body := by kernel_rfl
  res := by kernel_rfl
  ok := by kernel_rfl
  arity := fun _ => Nat.le_of_ble_eq_true (by kernel_rfl)
  pin := fun _ => by kernel_rfl
  chk := by kernel_rfl
  loops := o_slices_partitionOrdered_int
  run := e_slices_partitionOrdered_int
  F := fun _ => rfl
  emb := fun _ => rfl
theorem fd_slices_partitionOrdered_int : FDok prog (214, D_slices_partitionOrdered_int) := fn_ok mixed (env_ok (List.forall_mem_cons.2 ⟨fd_cmp_Less_int, fun _ h => absurd h List.not_mem_nil⟩)) tabOK ok_slices_partitionOrdered_int
theorem e_slices_pdqsortOrdered_int (rec_ : (Int) → (Int) → (Int) → (List (Int)) → Option (List (Int))) : ∀ x : (Dr_slices_pdqsortOrdered_int rec_).T, ((acode (E_slices_pdqsortOrdered_int rec_) tt Z_slices_pdqsortOrdered_int (orcOf (O_slices_pdqsortOrdered_int rec_)) C_slices_pdqsortOrdered_int (entry A_slices_pdqsortOrdered_int I_slices_pdqsortOrdered_int x)).map (keepRet tt K_slices_pdqsortOrdered_int)).ev = ((T_slices_pdqsortOrdered_int rec_ x.1.2.1 x.1.2.2.1 x.1.2.2.2.1 x.2.1).map fun r => some ((((), (r, ()))) : K_slices_pdqsortOrdered_int.T)).ev := fun _ => by kernel_rfl
noncomputable def B_slices_pdqsortOrdered_int_0 : Code := ((loopsOf C_slices_pdqsortOrdered_int).find? fun p => Nat.beq p.1 0).elim .skip (·.2)
theorem l_slices_pdqsortOrdered_int_0 (rec_ : (Int) → (Int) → (Int) → (List (Int)) → Option (List (Int))) : (DL_slices_pdqsortOrdered_int_0 rec_).OK (E_slices_pdqsortOrdered_int rec_) tt Z_slices_pdqsortOrdered_int (orcOf (O_slices_pdqsortOrdered_int rec_)) B_slices_pdqsortOrdered_int_0 where
  ok := by kernel_rfl
  oke := by kernel_rfl
  okr := by kernel_rfl
  eta := fun _ => rfl
  step := fun _ _ => by kernel_rfl
theorem o_slices_pdqsortOrdered_int (rec_ : (Int) → (Int) → (Int) → (List (Int)) → Option (List (Int))) : LoopsOK (E_slices_pdqsortOrdered_int rec_) tt Z_slices_pdqsortOrdered_int (O_slices_pdqsortOrdered_int rec_) C_slices_pdqsortOrdered_int := by
  have h : loopsOf C_slices_pdqsortOrdered_int = [(0, B_slices_pdqsortOrdered_int_0)] := by kernel_rfl
  unfold LoopsOK
  rw [h]
  exact List.forall_mem_cons.2 ⟨fun d h => (by have e : some (DL_slices_pdqsortOrdered_int_0 rec_) = some d := h; cases e; exact l_slices_pdqsortOrdered_int_0 rec_), fun _ h => absurd h List.not_mem_nil⟩
theorem ok_slices_pdqsortOrdered_int (n : Nat) : FnOK prog (E_slices_pdqsortOrdered_int (F_slices_pdqsortOrdered_int n)) tt 185 (D_slices_pdqsortOrdered_int (n + 1)) K_slices_pdqsortOrdered_int Z_slices_pdqsortOrdered_int (O_slices_pdqsortOrdered_int (F_slices_pdqsortOrdered_int n)) f185 C_slices_pdqsortOrdered_int (fun x => T_slices_pdqsortOrdered_int (F_slices_pdqsortOrdered_int n) x.1.2.1 x.1.2.2.1 x.1.2.2.2.1 x.2.1) (fun r => ((), (r, ()))) where
  at_ := func185
  name := by kernel_rfl
  body := by kernel_rfl
  res := by kernel_rfl
  ok := by kernel_rfl
  arity := fun _ => Nat.le_of_ble_eq_true (by kernel_rfl)
  pin := fun _ => by kernel_rfl
  chk := by kernel_rfl
  loops := o_slices_pdqsortOrdered_int (F_slices_pdqsortOrdered_int n)
  run := e_slices_pdqsortOrdered_int (F_slices_pdqsortOrdered_int n)
  F := fun _ => rfl
  emb := fun _ => rfl
theorem fd_slices_pdqsortOrdered_int : ∀ n : Nat, FDok prog (185, D_slices_pdqsortOrdered_int n)
  | 0 => fun _ _ h => nomatch h
  | n + 1 => fn_ok mixed (env_ok (List.forall_mem_cons.2 ⟨fd_slices_insertionSortOrdered_int, List.forall_mem_cons.2 ⟨fd_slices_breakPatternsOrdered_int, List.forall_mem_cons.2 ⟨fd_slices_choosePivotOrdered_int, List.forall_mem_cons.2 ⟨fd_cmp_Less_int, List.forall_mem_cons.2 ⟨fd_slices_partitionOrdered_int, List.forall_mem_cons.2 ⟨fd_slices_pdqsortOrdered_int n, fun _ h => absurd h List.not_mem_nil⟩⟩⟩⟩⟩⟩)) tabOK (ok_slices_pdqsortOrdered_int n)
theorem e_slices_Sort_Sint_int : ∀ x : D_slices_Sort_Sint_int.T, ((acode E_slices_Sort_Sint_int tt Z_slices_Sort_Sint_int (orcOf O_slices_Sort_Sint_int) C_slices_Sort_Sint_int (entry A_slices_Sort_Sint_int I_slices_Sort_Sint_int x)).map (keepRet tt K_slices_Sort_Sint_int)).ev = ((T_slices_Sort_Sint_int x.2.1).map fun r => some ((((), (r, ()))) : K_slices_Sort_Sint_int.T)).ev := fun _ => by kernel_rfl
theorem o_slices_Sort_Sint_int : LoopsOK E_slices_Sort_Sint_int tt Z_slices_Sort_Sint_int O_slices_Sort_Sint_int C_slices_Sort_Sint_int := by
  have h : loopsOf C_slices_Sort_Sint_int = [] := by kernel_rfl
  unfold LoopsOK
  rw [h]
  exact fun _ h => absurd h List.not_mem_nil
theorem ok_slices_Sort_Sint_int : FnOK prog E_slices_Sort_Sint_int tt 141 D_slices_Sort_Sint_int K_slices_Sort_Sint_int Z_slices_Sort_Sint_int O_slices_Sort_Sint_int f141 C_slices_Sort_Sint_int (fun x => T_slices_Sort_Sint_int x.2.1) (fun r => ((), (r, ()))) where
  at_ := func141
  name := by kernel_rfl
  body := by kernel_rfl
  res := by kernel_rfl
  ok := by kernel_rfl
  arity := fun _ => Nat.le_of_ble_eq_true (by kernel_rfl)
  pin := fun _ => by kernel_rfl
  chk := by kernel_rfl
  loops := o_slices_Sort_Sint_int
  run := e_slices_Sort_Sint_int
  F := fun _ => rfl
  emb := fun _ => rfl
theorem fd_slices_Sort_Sint_int : FDok prog (141, D_slices_Sort_Sint_int) := fn_ok mixed (env_ok (List.forall_mem_cons.2 ⟨fd_math_bits_Len, List.forall_mem_cons.2 ⟨fd_slices_pdqsortOrdered_int 1000000, fun _ h => absurd h List.not_mem_nil⟩⟩)) tabOK ok_slices_Sort_Sint_int
theorem e_slices_Sorted_int : ∀ x : D_slices_Sorted_int.T, ((acode E_slices_Sorted_int tt Z_slices_Sorted_int (orcOf O_slices_Sorted_int) C_slices_Sorted_int (entry A_slices_Sorted_int I_slices_Sorted_int x)).map (keepRet tt K_slices_Sorted_int)).ev = ((T_slices_Sorted_int x.1.1).map fun r => some (((((), ()), (r, ()))) : K_slices_Sorted_int.T)).ev := fun _ => by kernel_rfl
theorem o_slices_Sorted_int : LoopsOK E_slices_Sorted_int tt Z_slices_Sorted_int O_slices_Sorted_int C_slices_Sorted_int := by
  have h : loopsOf C_slices_Sorted_int = [] := by kernel_rfl
  unfold LoopsOK
  rw [h]
  exact fun _ h => absurd h List.not_mem_nil
theorem ok_slices_Sorted_int : FnOK prog E_slices_Sorted_int tt 149 D_slices_Sorted_int K_slices_Sorted_int Z_slices_Sorted_int O_slices_Sorted_int f149 C_slices_Sorted_int (fun x => T_slices_Sorted_int x.1.1) (fun r => (((), ()), (r, ()))) where
  at_ := func149
  name := by kernel_rfl
  body := by kernel_rfl
  res := by kernel_rfl
  ok := by kernel_rfl
  arity := fun _ => Nat.le_of_ble_eq_true (by kernel_rfl)
  pin := fun _ => by kernel_rfl
  chk := by kernel_rfl
  loops := o_slices_Sorted_int
  run := e_slices_Sorted_int
  F := fun _ => rfl
  emb := fun _ => rfl
theorem fd_slices_Sorted_int : FDok prog (149, D_slices_Sorted_int) := fn_ok mixed (env_ok (List.forall_mem_cons.2 ⟨fd_slices_Collect_int, List.forall_mem_cons.2 ⟨fd_slices_Sort_Sint_int, fun _ h => absurd h List.not_mem_nil⟩⟩)) tabOK ok_slices_Sorted_int
theorem e_im_isRising : ∀ x : D_im_isRising.T, ((acode E_im_isRising tt Z_im_isRising (orcOf O_im_isRising) C_im_isRising (entry A_im_isRising I_im_isRising x)).map (keepRet tt K_im_isRising)).ev = ((T_im_isRising x.1.1 x.1.2.1).map fun r => some ((((r, ()), ())) : K_im_isRising.T)).ev := fun _ => by kernel_rfl
noncomputable def B_im_isRising_0 : Code := ((loopsOf C_im_isRising).find? fun p => Nat.beq p.1 0).elim .skip (·.2)
theorem l_im_isRising_0 : (DL_im_isRising_0).OK E_im_isRising tt Z_im_isRising (orcOf O_im_isRising) B_im_isRising_0 where
  ok := by kernel_rfl
  oke := by kernel_rfl
  okr := by kernel_rfl
  eta := fun _ => rfl
  step := fun _ _ => by kernel_rfl
theorem o_im_isRising : LoopsOK E_im_isRising tt Z_im_isRising O_im_isRising C_im_isRising := by
  have h : loopsOf C_im_isRising = [(0, B_im_isRising_0)] := by kernel_rfl
  unfold LoopsOK
  rw [h]
  exact List.forall_mem_cons.2 ⟨fun d h => (by have e : some (DL_im_isRising_0) = some d := h; cases e; exact l_im_isRising_0), fun _ h => absurd h List.not_mem_nil⟩
theorem ok_im_isRising : FnOK prog E_im_isRising tt 148 D_im_isRising K_im_isRising Z_im_isRising O_im_isRising f148 C_im_isRising (fun x => T_im_isRising x.1.1 x.1.2.1) (fun r => ((r, ()), ())) where
  at_ := func148
  name := by kernel_rfl
  body := by kernel_rfl
  res := by kernel_rfl
  ok := by kernel_rfl
  arity := fun _ => Nat.le_of_ble_eq_true (by kernel_rfl)
  pin := fun _ => by kernel_rfl
  chk := by kernel_rfl
  loops := o_im_isRising
  run := e_im_isRising
  F := fun _ => rfl
  emb := fun _ => rfl
theorem fd_im_isRising : FDok prog (148, D_im_isRising) := fn_ok mixed (env_ok (List.forall_mem_cons.2 ⟨fd_im_between, fun _ h => absurd h List.not_mem_nil⟩)) tabOK ok_im_isRising
theorem e_im_isOrder : ∀ x : D_im_isOrder.T, ((acode E_im_isOrder tt Z_im_isOrder (orcOf O_im_isOrder) C_im_isOrder (entry A_im_isOrder I_im_isOrder x)).map (keepRet tt K_im_isOrder)).ev = ((T_im_isOrder x.1.1 x.1.2.1).map fun r => some ((((r, ()), ())) : K_im_isOrder.T)).ev := fun _ => by kernel_rfl
theorem o_im_isOrder : LoopsOK E_im_isOrder tt Z_im_isOrder O_im_isOrder C_im_isOrder := by
  have h : loopsOf C_im_isOrder = [] := by kernel_rfl
  unfold LoopsOK
  rw [h]
  exact fun _ h => absurd h List.not_mem_nil
theorem ok_im_isOrder : FnOK prog E_im_isOrder tt 97 D_im_isOrder K_im_isOrder Z_im_isOrder O_im_isOrder f97 C_im_isOrder (fun x => T_im_isOrder x.1.1 x.1.2.1) (fun r => ((r, ()), ())) where
  at_ := func97
  name := by kernel_rfl
  body := by kernel_rfl
  res := by kernel_rfl
  ok := by kernel_rfl
  arity := fun _ => Nat.le_of_ble_eq_true (by kernel_rfl)
  pin := fun _ => by kernel_rfl
  chk := by kernel_rfl
  loops := o_im_isOrder
  run := e_im_isOrder
  F := fun _ => rfl
  emb := fun _ => rfl
theorem fd_im_isOrder : FDok prog (97, D_im_isOrder) := fn_ok mixed (env_ok (List.forall_mem_cons.2 ⟨fd_slices_Values_Sint_int, List.forall_mem_cons.2 ⟨fd_slices_Sorted_int, List.forall_mem_cons.2 ⟨fd_im_isRising, fun _ h => absurd h List.not_mem_nil⟩⟩⟩)) tabOK ok_im_isOrder
theorem e_im_isNear_1 : ∀ x : D_im_isNear_1.T, ((acode E_im_isNear_1 tt Z_im_isNear_1 (orcOf O_im_isNear_1) C_im_isNear_1 (entry A_im_isNear_1 I_im_isNear_1 x)).map (keepRet tt K_im_isNear_1)).ev = ((T_im_isNear_1 x.1.1 x.1.2.1.1 x.1.2.2.1.1 x.1.2.2.2.1.1).map fun r => some ((((r, ()), ())) : K_im_isNear_1.T)).ev := fun _ => by kernel_rfl
theorem o_im_isNear_1 : LoopsOK E_im_isNear_1 tt Z_im_isNear_1 O_im_isNear_1 C_im_isNear_1 := by
  have h : loopsOf C_im_isNear_1 = [] := by kernel_rfl
  unfold LoopsOK
  rw [h]
  exact fun _ h => absurd h List.not_mem_nil
theorem ok_im_isNear_1 : FnOK prog E_im_isNear_1 tt 153 D_im_isNear_1 K_im_isNear_1 Z_im_isNear_1 O_im_isNear_1 f153 C_im_isNear_1 (fun x => T_im_isNear_1 x.1.1 x.1.2.1.1 x.1.2.2.1.1 x.1.2.2.2.1.1) (fun r => ((r, ()), ())) where
  at_ := func153
  name := by kernel_rfl
  body := by kernel_rfl
  res := by kernel_rfl
  ok := by kernel_rfl
  arity := fun _ => Nat.le_of_ble_eq_true (by kernel_rfl)
  pin := fun _ => by kernel_rfl
  chk := by kernel_rfl
  loops := o_im_isNear_1
  run := e_im_isNear_1
  F := fun _ => rfl
  emb := fun _ => rfl
theorem fd_im_isNear_1 : FDok prog (153, D_im_isNear_1) := fn_ok mixed (env_ok (fun _ h => absurd h List.not_mem_nil)) tabOK ok_im_isNear_1
theorem e_im_isNear : ∀ x : D_im_isNear.T, ((acode E_im_isNear tt Z_im_isNear (orcOf O_im_isNear) C_im_isNear (entry A_im_isNear I_im_isNear x)).map (keepRet tt K_im_isNear)).ev = ((T_im_isNear x.1.1 x.1.2.1 x.1.2.2.1 x.1.2.2.2.1).map fun r => some ((((r, ()), ())) : K_im_isNear.T)).ev := fun _ => by kernel_rfl
theorem o_im_isNear : LoopsOK E_im_isNear tt Z_im_isNear O_im_isNear C_im_isNear := by
  have h : loopsOf C_im_isNear = [] := by kernel_rfl
  unfold LoopsOK
  rw [h]
  exact fun _ h => absurd h List.not_mem_nil
theorem ok_im_isNear : FnOK prog E_im_isNear tt 101 D_im_isNear K_im_isNear Z_im_isNear O_im_isNear f101 C_im_isNear (fun x => T_im_isNear x.1.1 x.1.2.1 x.1.2.2.1 x.1.2.2.2.1) (fun r => ((r, ()), ())) where
  at_ := func101
  name := by kernel_rfl
  body := by kernel_rfl
  res := by kernel_rfl
  ok := by kernel_rfl
  arity := fun _ => Nat.le_of_ble_eq_true (by kernel_rfl)
  pin := fun _ => by kernel_rfl
  chk := by kernel_rfl
  loops := o_im_isNear
  run := e_im_isNear
  F := fun _ => rfl
  emb := fun _ => rfl
theorem fd_im_isNear : FDok prog (101, D_im_isNear) := fn_ok mixed (env_ok (List.forall_mem_cons.2 ⟨fd_slices_ContainsFunc_Sint_int, List.forall_mem_cons.2 ⟨fd_slices_ContainsFunc_Sint_int, List.forall_mem_cons.2 ⟨fd_im_isNear_1, fun _ h => absurd h List.not_mem_nil⟩⟩⟩)) tabOK ok_im_isNear
theorem e_im_ProvesApart_1 : ∀ x : D_im_ProvesApart_1.T, ((acode E_im_ProvesApart_1 tt Z_im_ProvesApart_1 (orcOf O_im_ProvesApart_1) C_im_ProvesApart_1 (entry A_im_ProvesApart_1 I_im_ProvesApart_1 x)).map (keepRet tt K_im_ProvesApart_1)).ev = ((T_im_ProvesApart_1 x.1.1 x.1.2.1.1 x.1.2.2.1.1 x.1.2.2.2.1.1).map fun r => some ((((r, ()), ())) : K_im_ProvesApart_1.T)).ev := fun _ => by kernel_rfl
theorem o_im_ProvesApart_1 : LoopsOK E_im_ProvesApart_1 tt Z_im_ProvesApart_1 O_im_ProvesApart_1 C_im_ProvesApart_1 := by
  have h : loopsOf C_im_ProvesApart_1 = [] := by kernel_rfl
  unfold LoopsOK
  rw [h]
  exact fun _ h => absurd h List.not_mem_nil
theorem ok_im_ProvesApart_1 : FnOK prog E_im_ProvesApart_1 tt 100 D_im_ProvesApart_1 K_im_ProvesApart_1 Z_im_ProvesApart_1 O_im_ProvesApart_1 f100 C_im_ProvesApart_1 (fun x => T_im_ProvesApart_1 x.1.1 x.1.2.1.1 x.1.2.2.1.1 x.1.2.2.2.1.1) (fun r => ((r, ()), ())) where
  at_ := func100
  name := by kernel_rfl
  body := by kernel_rfl
  res := by kernel_rfl
  ok := by kernel_rfl
  arity := fun _ => Nat.le_of_ble_eq_true (by kernel_rfl)
  pin := fun _ => by kernel_rfl
  chk := by kernel_rfl
  loops := o_im_ProvesApart_1
  run := e_im_ProvesApart_1
  F := fun _ => rfl
  emb := fun _ => rfl
theorem fd_im_ProvesApart_1 : FDok prog (100, D_im_ProvesApart_1) := fn_ok mixed (env_ok (List.forall_mem_cons.2 ⟨fd_im_isNear, fun _ h => absurd h List.not_mem_nil⟩)) tabOK ok_im_ProvesApart_1
theorem e_im_ProvesApart : ∀ x : D_im_ProvesApart.T, ((acode E_im_ProvesApart tt Z_im_ProvesApart (orcOf O_im_ProvesApart) C_im_ProvesApart (entry A_im_ProvesApart I_im_ProvesApart x)).map (keepRet tt K_im_ProvesApart)).ev = ((T_im_ProvesApart x.1.1 x.1.2.1 x.1.2.2.1).map fun r => some ((((r.1, (r.2, ())), ())) : K_im_ProvesApart.T)).ev := fun _ => by kernel_rfl
noncomputable def B_im_ProvesApart_0 : Code := ((loopsOf C_im_ProvesApart).find? fun p => Nat.beq p.1 0).elim .skip (·.2)
theorem l_im_ProvesApart_0 : (DL_im_ProvesApart_0).OK E_im_ProvesApart tt Z_im_ProvesApart (orcOf O_im_ProvesApart) B_im_ProvesApart_0 where
  ok := by kernel_rfl
  oke := by kernel_rfl
  okr := by kernel_rfl
  eta := fun _ => rfl
  step := fun _ _ => by kernel_rfl
theorem o_im_ProvesApart : LoopsOK E_im_ProvesApart tt Z_im_ProvesApart O_im_ProvesApart C_im_ProvesApart := by
  have h : loopsOf C_im_ProvesApart = [(0, B_im_ProvesApart_0)] := by kernel_rfl
  unfold LoopsOK
  rw [h]
  exact List.forall_mem_cons.2 ⟨fun d h => (by have e : some (DL_im_ProvesApart_0) = some d := h; cases e; exact l_im_ProvesApart_0), fun _ h => absurd h List.not_mem_nil⟩
theorem ok_im_ProvesApart : FnOK prog E_im_ProvesApart tt 33 D_im_ProvesApart K_im_ProvesApart Z_im_ProvesApart O_im_ProvesApart f33 C_im_ProvesApart (fun x => T_im_ProvesApart x.1.1 x.1.2.1 x.1.2.2.1) (fun r => ((r.1, (r.2, ())), ())) where
  at_ := func33
  name := by kernel_rfl
  body := by kernel_rfl
  res := by kernel_rfl
  ok := by kernel_rfl
  arity := fun _ => Nat.le_of_ble_eq_true (by kernel_rfl)
  pin := fun _ => by kernel_rfl
  chk := by kernel_rfl
  loops := o_im_ProvesApart
  run := e_im_ProvesApart
  F := fun _ => rfl
  emb := fun _ => rfl
theorem fd_im_ProvesApart : FDok prog (33, D_im_ProvesApart) := fn_ok mixed (env_ok (List.forall_mem_cons.2 ⟨fd_im_IsGround, List.forall_mem_cons.2 ⟨fd_im_between, List.forall_mem_cons.2 ⟨fd_slices_Concat_Sint_int, List.forall_mem_cons.2 ⟨fd_im_isOrder, List.forall_mem_cons.2 ⟨fd_slices_ContainsFunc_Sint_int, List.forall_mem_cons.2 ⟨fd_slices_ContainsFunc_Sint_int, List.forall_mem_cons.2 ⟨fd_im_ProvesApart_1, fun _ h => absurd h List.not_mem_nil⟩⟩⟩⟩⟩⟩⟩)) tabOK ok_im_ProvesApart
theorem e_lw_eqIntS : ∀ x : D_lw_eqIntS.T, ((acode E_lw_eqIntS tt Z_lw_eqIntS (orcOf O_lw_eqIntS) C_lw_eqIntS (entry A_lw_eqIntS I_lw_eqIntS x)).map (keepRet tt K_lw_eqIntS)).ev = ((T_lw_eqIntS x.1.1 x.1.2.1).map fun r => some ((((r, ()), ())) : K_lw_eqIntS.T)).ev := fun _ => by kernel_rfl
noncomputable def B_lw_eqIntS_0 : Code := ((loopsOf C_lw_eqIntS).find? fun p => Nat.beq p.1 0).elim .skip (·.2)
theorem l_lw_eqIntS_0 : (DL_lw_eqIntS_0).OK E_lw_eqIntS tt Z_lw_eqIntS (orcOf O_lw_eqIntS) B_lw_eqIntS_0 where
  ok := by kernel_rfl
  oke := by kernel_rfl
  okr := by kernel_rfl
  eta := fun _ => rfl
  step := fun _ _ => by kernel_rfl
theorem o_lw_eqIntS : LoopsOK E_lw_eqIntS tt Z_lw_eqIntS O_lw_eqIntS C_lw_eqIntS := by
  have h : loopsOf C_lw_eqIntS = [(0, B_lw_eqIntS_0)] := by kernel_rfl
  unfold LoopsOK
  rw [h]
  exact List.forall_mem_cons.2 ⟨fun d h => (by have e : some (DL_lw_eqIntS_0) = some d := h; cases e; exact l_lw_eqIntS_0), fun _ h => absurd h List.not_mem_nil⟩
theorem ok_lw_eqIntS : FnOK prog E_lw_eqIntS tt 16 D_lw_eqIntS K_lw_eqIntS Z_lw_eqIntS O_lw_eqIntS f16 C_lw_eqIntS (fun x => T_lw_eqIntS x.1.1 x.1.2.1) (fun r => ((r, ()), ())) where
  at_ := func16
  name := by kernel_rfl
  body := by kernel_rfl
  res := by kernel_rfl
  ok := by kernel_rfl
  arity := fun _ => Nat.le_of_ble_eq_true (by kernel_rfl)
  pin := fun _ => by kernel_rfl
  chk := by kernel_rfl
  loops := o_lw_eqIntS
  run := e_lw_eqIntS
  F := fun _ => rfl
  emb := fun _ => rfl
theorem fd_lw_eqIntS : FDok prog (16, D_lw_eqIntS) := fn_ok mixed (env_ok (fun _ h => absurd h List.not_mem_nil)) tabOK ok_lw_eqIntS
theorem e_lw_eqIntSS : ∀ x : D_lw_eqIntSS.T, ((acode E_lw_eqIntSS tt Z_lw_eqIntSS (orcOf O_lw_eqIntSS) C_lw_eqIntSS (entry A_lw_eqIntSS I_lw_eqIntSS x)).map (keepRet tt K_lw_eqIntSS)).ev = ((T_lw_eqIntSS x.1.1 x.1.2.1).map fun r => some ((((r, ()), ())) : K_lw_eqIntSS.T)).ev := fun _ => by kernel_rfl
noncomputable def B_lw_eqIntSS_0 : Code := ((loopsOf C_lw_eqIntSS).find? fun p => Nat.beq p.1 0).elim .skip (·.2)
theorem l_lw_eqIntSS_0 : (DL_lw_eqIntSS_0).OK E_lw_eqIntSS tt Z_lw_eqIntSS (orcOf O_lw_eqIntSS) B_lw_eqIntSS_0 where
  ok := by kernel_rfl
  oke := by kernel_rfl
  okr := by kernel_rfl
  eta := fun _ => rfl
  step := fun _ _ => by kernel_rfl
theorem o_lw_eqIntSS : LoopsOK E_lw_eqIntSS tt Z_lw_eqIntSS O_lw_eqIntSS C_lw_eqIntSS := by
  have h : loopsOf C_lw_eqIntSS = [(0, B_lw_eqIntSS_0)] := by kernel_rfl
  unfold LoopsOK
  rw [h]
  exact List.forall_mem_cons.2 ⟨fun d h => (by have e : some (DL_lw_eqIntSS_0) = some d := h; cases e; exact l_lw_eqIntSS_0), fun _ h => absurd h List.not_mem_nil⟩
theorem ok_lw_eqIntSS : FnOK prog E_lw_eqIntSS tt 17 D_lw_eqIntSS K_lw_eqIntSS Z_lw_eqIntSS O_lw_eqIntSS f17 C_lw_eqIntSS (fun x => T_lw_eqIntSS x.1.1 x.1.2.1) (fun r => ((r, ()), ())) where
  at_ := func17
  name := by kernel_rfl
  body := by kernel_rfl
  res := by kernel_rfl
  ok := by kernel_rfl
  arity := fun _ => Nat.le_of_ble_eq_true (by kernel_rfl)
  pin := fun _ => by kernel_rfl
  chk := by kernel_rfl
  loops := o_lw_eqIntSS
  run := e_lw_eqIntSS
  F := fun _ => rfl
  emb := fun _ => rfl
theorem fd_lw_eqIntSS : FDok prog (17, D_lw_eqIntSS) := fn_ok mixed (env_ok (List.forall_mem_cons.2 ⟨fd_lw_eqIntS, fun _ h => absurd h List.not_mem_nil⟩)) tabOK ok_lw_eqIntSS
theorem e_lw_FnExactProvesApart : ∀ x : D_lw_FnExactProvesApart.T, ((acode E_lw_FnExactProvesApart tt Z_lw_FnExactProvesApart (orcOf O_lw_FnExactProvesApart) C_lw_FnExactProvesApart (entry A_lw_FnExactProvesApart I_lw_FnExactProvesApart x)).map (keepRet tt K_lw_FnExactProvesApart)).ev = ((T_lw_FnExactProvesApart x.1.1 x.1.2.1 x.1.2.2.1).map fun r => some ((((r, ()), ())) : K_lw_FnExactProvesApart.T)).ev := fun _ => by kernel_rfl
theorem o_lw_FnExactProvesApart : LoopsOK E_lw_FnExactProvesApart tt Z_lw_FnExactProvesApart O_lw_FnExactProvesApart C_lw_FnExactProvesApart := by
  have h : loopsOf C_lw_FnExactProvesApart = [] := by kernel_rfl
  unfold LoopsOK
  rw [h]
  exact fun _ h => absurd h List.not_mem_nil
theorem ok_lw_FnExactProvesApart : FnOK prog E_lw_FnExactProvesApart tt 7 D_lw_FnExactProvesApart K_lw_FnExactProvesApart Z_lw_FnExactProvesApart O_lw_FnExactProvesApart f7 C_lw_FnExactProvesApart (fun x => T_lw_FnExactProvesApart x.1.1 x.1.2.1 x.1.2.2.1) (fun r => ((r, ()), ())) where
  at_ := func7
  name := by kernel_rfl
  body := by kernel_rfl
  res := by kernel_rfl
  ok := by kernel_rfl
  arity := fun _ => Nat.le_of_ble_eq_true (by kernel_rfl)
  pin := fun _ => by kernel_rfl
  chk := by kernel_rfl
  loops := o_lw_FnExactProvesApart
  run := e_lw_FnExactProvesApart
  F := fun _ => rfl
  emb := fun _ => rfl
theorem fd_lw_FnExactProvesApart : FDok prog (7, D_lw_FnExactProvesApart) := fn_ok mixed (env_ok (List.forall_mem_cons.2 ⟨fd_lw_szIntSS, List.forall_mem_cons.2 ⟨fd_lw_toIntSS, List.forall_mem_cons.2 ⟨fd_sp_ProvesApart, List.forall_mem_cons.2 ⟨fd_im_ProvesApart, List.forall_mem_cons.2 ⟨fd_lw_eqIntSS, fun _ h => absurd h List.not_mem_nil⟩⟩⟩⟩⟩)) tabOK ok_lw_FnExactProvesApart
end Go.Proofs.Ytlemejhffpkbkaa
