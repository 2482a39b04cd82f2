import Derived.Test.YtlemejhffpkbkaaC1
namespace Go.Proofs.Ytlemejhffpkbkaa
open Go.Proofs.Try
theorem mixed : prog.follows .mixedOrders = true := by kernel_rfl
theorem tabOK : TabOK prog tt := tab_ok (by kernel_rfl)
theorem e_lw_szIntS : ∀ x : D_lw_szIntS.T, ((acode E_lw_szIntS tt Z_lw_szIntS (orcOf O_lw_szIntS) C_lw_szIntS (entry A_lw_szIntS I_lw_szIntS x)).map (keepRet tt K_lw_szIntS)).ev = ((T_lw_szIntS x.1.1 x.1.2.1).map fun r => some ((((r, ()), ())) : K_lw_szIntS.T)).ev := fun _ => by kernel_rfl
theorem o_lw_szIntS : LoopsOK E_lw_szIntS tt Z_lw_szIntS O_lw_szIntS C_lw_szIntS := by
  have h : loopsOf C_lw_szIntS = [] := by kernel_rfl
  unfold LoopsOK
  rw [h]
  exact fun _ h => absurd h List.not_mem_nil
theorem ok_lw_szIntS : FnOK prog E_lw_szIntS tt 62 D_lw_szIntS K_lw_szIntS Z_lw_szIntS O_lw_szIntS f62 C_lw_szIntS (fun x => T_lw_szIntS x.1.1 x.1.2.1) (fun r => ((r, ()), ())) where
  at_ := func62
  name := by kernel_rfl
  body := by kernel_rfl
  res := by kernel_rfl
  ok := by kernel_rfl
  arity := fun _ => Nat.le_of_ble_eq_true (by kernel_rfl)
  pin := fun _ => by kernel_rfl
  chk := by kernel_rfl
  loops := o_lw_szIntS
  run := e_lw_szIntS
  F := fun _ => rfl
  emb := fun _ => rfl
theorem fd_lw_szIntS : FDok prog (62, D_lw_szIntS) := fn_ok mixed (env_ok (fun _ h => absurd h List.not_mem_nil)) tabOK ok_lw_szIntS
theorem e_lw_szIntSS : ∀ x : D_lw_szIntSS.T, ((acode E_lw_szIntSS tt Z_lw_szIntSS (orcOf O_lw_szIntSS) C_lw_szIntSS (entry A_lw_szIntSS I_lw_szIntSS x)).map (keepRet tt K_lw_szIntSS)).ev = ((T_lw_szIntSS x.1.1 x.1.2.1).map fun r => some ((((r, ()), ())) : K_lw_szIntSS.T)).ev := fun _ => by kernel_rfl
noncomputable def B_lw_szIntSS_0 : Code := ((loopsOf C_lw_szIntSS).find? fun p => Nat.beq p.1 0).elim .skip (·.2)
theorem l_lw_szIntSS_0 : (DL_lw_szIntSS_0).OK E_lw_szIntSS tt Z_lw_szIntSS (orcOf O_lw_szIntSS) B_lw_szIntSS_0 where
  ok := by kernel_rfl
  oke := by kernel_rfl
  okr := by kernel_rfl
  eta := fun _ => rfl
  step := fun _ _ => by kernel_rfl
theorem o_lw_szIntSS : LoopsOK E_lw_szIntSS tt Z_lw_szIntSS O_lw_szIntSS C_lw_szIntSS := by
  have h : loopsOf C_lw_szIntSS = [(0, B_lw_szIntSS_0)] := by kernel_rfl
  unfold LoopsOK
  rw [h]
  exact List.forall_mem_cons.2 ⟨fun d h => (by have e : some (DL_lw_szIntSS_0) = some d := h; cases e; exact l_lw_szIntSS_0), fun _ h => absurd h List.not_mem_nil⟩
theorem ok_lw_szIntSS : FnOK prog E_lw_szIntSS tt 12 D_lw_szIntSS K_lw_szIntSS Z_lw_szIntSS O_lw_szIntSS f12 C_lw_szIntSS (fun x => T_lw_szIntSS x.1.1 x.1.2.1) (fun r => ((r, ()), ())) where
  at_ := func12
  name := by kernel_rfl
  body := by kernel_rfl
  res := by kernel_rfl
  ok := by kernel_rfl
  arity := fun _ => Nat.le_of_ble_eq_true (by kernel_rfl)
  pin := fun _ => by kernel_rfl
  chk := by kernel_rfl
  loops := o_lw_szIntSS
  run := e_lw_szIntSS
  F := fun _ => rfl
  emb := fun _ => rfl
theorem fd_lw_szIntSS : FDok prog (12, D_lw_szIntSS) := fn_ok mixed (env_ok (List.forall_mem_cons.2 ⟨fd_lw_szIntS, fun _ h => absurd h List.not_mem_nil⟩)) tabOK ok_lw_szIntSS
theorem e_lw_toIntS : ∀ x : D_lw_toIntS.T, ((acode E_lw_toIntS tt Z_lw_toIntS (orcOf O_lw_toIntS) C_lw_toIntS (entry A_lw_toIntS I_lw_toIntS x)).map (keepRet tt K_lw_toIntS)).ev = ((T_lw_toIntS x.1.1).map fun r => some (((((), ()), (r, ()))) : K_lw_toIntS.T)).ev := fun _ => by kernel_rfl
noncomputable def B_lw_toIntS_0 : Code := ((loopsOf C_lw_toIntS).find? fun p => Nat.beq p.1 0).elim .skip (·.2)
theorem l_lw_toIntS_0 : (DL_lw_toIntS_0).OK E_lw_toIntS tt Z_lw_toIntS (orcOf O_lw_toIntS) B_lw_toIntS_0 where
  ok := by kernel_rfl
  oke := by kernel_rfl
  okr := by kernel_rfl
  eta := fun _ => rfl
  step := fun _ _ => by kernel_rfl
theorem o_lw_toIntS : LoopsOK E_lw_toIntS tt Z_lw_toIntS O_lw_toIntS C_lw_toIntS := by
  have h : loopsOf C_lw_toIntS = [(0, B_lw_toIntS_0)] := by kernel_rfl
  unfold LoopsOK
  rw [h]
  exact List.forall_mem_cons.2 ⟨fun d h => (by have e : some (DL_lw_toIntS_0) = some d := h; cases e; exact l_lw_toIntS_0), fun _ h => absurd h List.not_mem_nil⟩
theorem ok_lw_toIntS : FnOK prog E_lw_toIntS tt 26 D_lw_toIntS K_lw_toIntS Z_lw_toIntS O_lw_toIntS f26 C_lw_toIntS (fun x => T_lw_toIntS x.1.1) (fun r => (((), ()), (r, ()))) where
  at_ := func26
  name := by kernel_rfl
  body := by kernel_rfl
  res := by kernel_rfl
  ok := by kernel_rfl
  arity := fun _ => Nat.le_of_ble_eq_true (by kernel_rfl)
  pin := fun _ => by kernel_rfl
  chk := by kernel_rfl
  loops := o_lw_toIntS
  run := e_lw_toIntS
  F := fun _ => rfl
  emb := fun _ => rfl
theorem fd_lw_toIntS : FDok prog (26, D_lw_toIntS) := fn_ok mixed (env_ok (fun _ h => absurd h List.not_mem_nil)) tabOK ok_lw_toIntS
theorem e_lw_toIntSS : ∀ x : D_lw_toIntSS.T, ((acode E_lw_toIntSS tt Z_lw_toIntSS (orcOf O_lw_toIntSS) C_lw_toIntSS (entry A_lw_toIntSS I_lw_toIntSS x)).map (keepRet tt K_lw_toIntSS)).ev = ((T_lw_toIntSS x.1.1).map fun r => some (((((), ()), (r, ()))) : K_lw_toIntSS.T)).ev := fun _ => by kernel_rfl
noncomputable def B_lw_toIntSS_0 : Code := ((loopsOf C_lw_toIntSS).find? fun p => Nat.beq p.1 0).elim .skip (·.2)
theorem l_lw_toIntSS_0 : (DL_lw_toIntSS_0).OK E_lw_toIntSS tt Z_lw_toIntSS (orcOf O_lw_toIntSS) B_lw_toIntSS_0 where
  ok := by kernel_rfl
  oke := by kernel_rfl
  okr := by kernel_rfl
  eta := fun _ => rfl
  step := fun _ _ => by kernel_rfl
theorem o_lw_toIntSS : LoopsOK E_lw_toIntSS tt Z_lw_toIntSS O_lw_toIntSS C_lw_toIntSS := by
  have h : loopsOf C_lw_toIntSS = [(0, B_lw_toIntSS_0)] := by kernel_rfl
  unfold LoopsOK
  rw [h]
  exact List.forall_mem_cons.2 ⟨fun d h => (by have e : some (DL_lw_toIntSS_0) = some d := h; cases e; exact l_lw_toIntSS_0), fun _ h => absurd h List.not_mem_nil⟩
theorem ok_lw_toIntSS : FnOK prog E_lw_toIntSS tt 14 D_lw_toIntSS K_lw_toIntSS Z_lw_toIntSS O_lw_toIntSS f14 C_lw_toIntSS (fun x => T_lw_toIntSS x.1.1) (fun r => (((), ()), (r, ()))) where
  at_ := func14
  name := by kernel_rfl
  body := by kernel_rfl
  res := by kernel_rfl
  ok := by kernel_rfl
  arity := fun _ => Nat.le_of_ble_eq_true (by kernel_rfl)
  pin := fun _ => by kernel_rfl
  chk := by kernel_rfl
  loops := o_lw_toIntSS
  run := e_lw_toIntSS
  F := fun _ => rfl
  emb := fun _ => rfl
theorem fd_lw_toIntSS : FDok prog (14, D_lw_toIntSS) := fn_ok mixed (env_ok (List.forall_mem_cons.2 ⟨fd_lw_toIntS, fun _ h => absurd h List.not_mem_nil⟩)) tabOK ok_lw_toIntSS
theorem e_sp_l1In : ∀ x : D_sp_l1In.T, ((acode E_sp_l1In tt Z_sp_l1In (orcOf O_sp_l1In) C_sp_l1In (entry A_sp_l1In I_sp_l1In x)).map (keepRet tt K_sp_l1In)).ev = ((T_sp_l1In x.1.1 x.1.2.1 x.1.2.2.1).map fun r => some ((((r, ()), ())) : K_sp_l1In.T)).ev := fun _ => by kernel_rfl
theorem o_sp_l1In : LoopsOK E_sp_l1In tt Z_sp_l1In O_sp_l1In C_sp_l1In := by
  have h : loopsOf C_sp_l1In = [] := by kernel_rfl
  unfold LoopsOK
  rw [h]
  exact fun _ h => absurd h List.not_mem_nil
theorem ok_sp_l1In : FnOK prog E_sp_l1In tt 84 D_sp_l1In K_sp_l1In Z_sp_l1In O_sp_l1In f84 C_sp_l1In (fun x => T_sp_l1In x.1.1 x.1.2.1 x.1.2.2.1) (fun r => ((r, ()), ())) where
  at_ := func84
  name := by kernel_rfl
  body := by kernel_rfl
  res := by kernel_rfl
  ok := by kernel_rfl
  arity := fun _ => Nat.le_of_ble_eq_true (by kernel_rfl)
  pin := fun _ => by kernel_rfl
  chk := by kernel_rfl
  loops := o_sp_l1In
  run := e_sp_l1In
  F := fun _ => rfl
  emb := fun _ => rfl
theorem fd_sp_l1In : FDok prog (84, D_sp_l1In) := fn_ok mixed (env_ok (fun _ h => absurd h List.not_mem_nil)) tabOK ok_sp_l1In
theorem e_sp_l2Row : ∀ x : D_sp_l2Row.T, ((acode E_sp_l2Row tt Z_sp_l2Row (orcOf O_sp_l2Row) C_sp_l2Row (entry A_sp_l2Row I_sp_l2Row x)).map (keepRet tt K_sp_l2Row)).ev = ((T_sp_l2Row x.1.1 x.1.2.1 x.1.2.2.1).map fun r => some ((((r, ()), ())) : K_sp_l2Row.T)).ev := fun _ => by kernel_rfl
noncomputable def B_sp_l2Row_0 : Code := ((loopsOf C_sp_l2Row).find? fun p => Nat.beq p.1 0).elim .skip (·.2)
theorem l_sp_l2Row_0 : (DL_sp_l2Row_0).OK E_sp_l2Row tt Z_sp_l2Row (orcOf O_sp_l2Row) B_sp_l2Row_0 where
  ok := by kernel_rfl
  oke := by kernel_rfl
  okr := by kernel_rfl
  eta := fun _ => rfl
  step := fun _ _ => by kernel_rfl
theorem o_sp_l2Row : LoopsOK E_sp_l2Row tt Z_sp_l2Row O_sp_l2Row C_sp_l2Row := by
  have h : loopsOf C_sp_l2Row = [(0, B_sp_l2Row_0)] := by kernel_rfl
  unfold LoopsOK
  rw [h]
  exact List.forall_mem_cons.2 ⟨fun d h => (by have e : some (DL_sp_l2Row_0) = some d := h; cases e; exact l_sp_l2Row_0), fun _ h => absurd h List.not_mem_nil⟩
theorem ok_sp_l2Row : FnOK prog E_sp_l2Row tt 77 D_sp_l2Row K_sp_l2Row Z_sp_l2Row O_sp_l2Row f77 C_sp_l2Row (fun x => T_sp_l2Row x.1.1 x.1.2.1 x.1.2.2.1) (fun r => ((r, ()), ())) where
  at_ := func77
  name := by kernel_rfl
  body := by kernel_rfl
  res := by kernel_rfl
  ok := by kernel_rfl
  arity := fun _ => Nat.le_of_ble_eq_true (by kernel_rfl)
  pin := fun _ => by kernel_rfl
  chk := by kernel_rfl
  loops := o_sp_l2Row
  run := e_sp_l2Row
  F := fun _ => rfl
  emb := fun _ => rfl
theorem fd_sp_l2Row : FDok prog (77, D_sp_l2Row) := fn_ok mixed (env_ok (List.forall_mem_cons.2 ⟨fd_sp_l1In, fun _ h => absurd h List.not_mem_nil⟩)) tabOK ok_sp_l2Row
theorem e_sp_l11Ground : ∀ x : D_sp_l11Ground.T, ((acode E_sp_l11Ground tt Z_sp_l11Ground (orcOf O_sp_l11Ground) C_sp_l11Ground (entry A_sp_l11Ground I_sp_l11Ground x)).map (keepRet tt K_sp_l11Ground)).ev = ((T_sp_l11Ground x.1.1).map fun r => some ((((r, ()), ())) : K_sp_l11Ground.T)).ev := fun _ => by kernel_rfl
noncomputable def B_sp_l11Ground_2 : Code := ((loopsOf C_sp_l11Ground).find? fun p => Nat.beq p.1 2).elim .skip (·.2)
theorem l_sp_l11Ground_2 : (DL_sp_l11Ground_2).OK E_sp_l11Ground tt Z_sp_l11Ground (orcOf O_sp_l11Ground) B_sp_l11Ground_2 where
  ok := by kernel_rfl
  oke := by kernel_rfl
  okr := by kernel_rfl
  eta := fun _ => rfl
  step := fun _ _ => by kernel_rfl
noncomputable def B_sp_l11Ground_0 : Code := ((loopsOf C_sp_l11Ground).find? fun p => Nat.beq p.1 0).elim .skip (·.2)
theorem l_sp_l11Ground_0 : (DL_sp_l11Ground_0).OK E_sp_l11Ground tt Z_sp_l11Ground (orcOf O_sp_l11Ground) B_sp_l11Ground_0 where
  ok := by kernel_rfl
  oke := by kernel_rfl
  okr := by kernel_rfl
  eta := fun _ => rfl
  step := fun _ _ => by kernel_rfl
theorem o_sp_l11Ground : LoopsOK E_sp_l11Ground tt Z_sp_l11Ground O_sp_l11Ground C_sp_l11Ground := by
  have h : loopsOf C_sp_l11Ground = [(0, B_sp_l11Ground_0), (2, B_sp_l11Ground_2)] := by kernel_rfl
  unfold LoopsOK
  rw [h]
  exact List.forall_mem_cons.2 ⟨fun d h => (by have e : some (DL_sp_l11Ground_0) = some d := h; cases e; exact l_sp_l11Ground_0), List.forall_mem_cons.2 ⟨fun d h => (by have e : some (DL_sp_l11Ground_2) = some d := h; cases e; exact l_sp_l11Ground_2), fun _ h => absurd h List.not_mem_nil⟩⟩
theorem ok_sp_l11Ground : FnOK prog E_sp_l11Ground tt 95 D_sp_l11Ground K_sp_l11Ground Z_sp_l11Ground O_sp_l11Ground f95 C_sp_l11Ground (fun x => T_sp_l11Ground x.1.1) (fun r => ((r, ()), ())) where
  at_ := func95
  name := by kernel_rfl
  body := by kernel_rfl
  res := by kernel_rfl
  ok := by kernel_rfl
  arity := fun _ => Nat.le_of_ble_eq_true (by kernel_rfl)
  pin := fun _ => by kernel_rfl
  chk := by kernel_rfl
  loops := o_sp_l11Ground
  run := e_sp_l11Ground
  F := fun _ => rfl
  emb := fun _ => rfl
theorem fd_sp_l11Ground : FDok prog (95, D_sp_l11Ground) := fn_ok mixed (env_ok (List.forall_mem_cons.2 ⟨fd_sp_l2Row, fun _ h => absurd h List.not_mem_nil⟩)) tabOK ok_sp_l11Ground
theorem e_sp_l11Small : ∀ x : D_sp_l11Small.T, ((acode E_sp_l11Small tt Z_sp_l11Small (orcOf O_sp_l11Small) C_sp_l11Small (entry A_sp_l11Small I_sp_l11Small x)).map (keepRet tt K_sp_l11Small)).ev = ((T_sp_l11Small x.1.1).map fun r => some ((((r, ()), ())) : K_sp_l11Small.T)).ev := fun _ => by kernel_rfl
theorem o_sp_l11Small : LoopsOK E_sp_l11Small tt Z_sp_l11Small O_sp_l11Small C_sp_l11Small := by
  have h : loopsOf C_sp_l11Small = [] := by kernel_rfl
  unfold LoopsOK
  rw [h]
  exact fun _ h => absurd h List.not_mem_nil
theorem ok_sp_l11Small : FnOK prog E_sp_l11Small tt 127 D_sp_l11Small K_sp_l11Small Z_sp_l11Small O_sp_l11Small f127 C_sp_l11Small (fun x => T_sp_l11Small x.1.1) (fun r => ((r, ()), ())) where
  at_ := func127
  name := by kernel_rfl
  body := by kernel_rfl
  res := by kernel_rfl
  ok := by kernel_rfl
  arity := fun _ => Nat.le_of_ble_eq_true (by kernel_rfl)
  pin := fun _ => by kernel_rfl
  chk := by kernel_rfl
  loops := o_sp_l11Small
  run := e_sp_l11Small
  F := fun _ => rfl
  emb := fun _ => rfl
theorem fd_sp_l11Small : FDok prog (127, D_sp_l11Small) := fn_ok mixed (env_ok (List.forall_mem_cons.2 ⟨fd_sp_l11Ground, fun _ h => absurd h List.not_mem_nil⟩)) tabOK ok_sp_l11Small
theorem e_sp_l11Flows : ∀ x : D_sp_l11Flows.T, ((acode E_sp_l11Flows tt Z_sp_l11Flows (orcOf O_sp_l11Flows) C_sp_l11Flows (entry A_sp_l11Flows I_sp_l11Flows x)).map (keepRet tt K_sp_l11Flows)).ev = ((T_sp_l11Flows x.1.1 x.1.2.1 x.1.2.2.1).map fun r => some ((((r, ()), ())) : K_sp_l11Flows.T)).ev := fun _ => by kernel_rfl
noncomputable def B_sp_l11Flows_0 : Code := ((loopsOf C_sp_l11Flows).find? fun p => Nat.beq p.1 0).elim .skip (·.2)
theorem l_sp_l11Flows_0 : (DL_sp_l11Flows_0).OK E_sp_l11Flows tt Z_sp_l11Flows (orcOf O_sp_l11Flows) B_sp_l11Flows_0 where
  ok := by kernel_rfl
  oke := by kernel_rfl
  okr := by kernel_rfl
  eta := fun _ => rfl
  step := fun _ _ => by kernel_rfl
theorem o_sp_l11Flows : LoopsOK E_sp_l11Flows tt Z_sp_l11Flows O_sp_l11Flows C_sp_l11Flows := by
  have h : loopsOf C_sp_l11Flows = [(0, B_sp_l11Flows_0)] := by kernel_rfl
  unfold LoopsOK
  rw [h]
  exact List.forall_mem_cons.2 ⟨fun d h => (by have e : some (DL_sp_l11Flows_0) = some d := h; cases e; exact l_sp_l11Flows_0), fun _ h => absurd h List.not_mem_nil⟩
theorem ok_sp_l11Flows : FnOK prog E_sp_l11Flows tt 83 D_sp_l11Flows K_sp_l11Flows Z_sp_l11Flows O_sp_l11Flows f83 C_sp_l11Flows (fun x => T_sp_l11Flows x.1.1 x.1.2.1 x.1.2.2.1) (fun r => ((r, ()), ())) where
  at_ := func83
  name := by kernel_rfl
  body := by kernel_rfl
  res := by kernel_rfl
  ok := by kernel_rfl
  arity := fun _ => Nat.le_of_ble_eq_true (by kernel_rfl)
  pin := fun _ => by kernel_rfl
  chk := by kernel_rfl
  loops := o_sp_l11Flows
  run := e_sp_l11Flows
  F := fun _ => rfl
  emb := fun _ => rfl
theorem fd_sp_l11Flows : FDok prog (83, D_sp_l11Flows) := fn_ok mixed (env_ok (List.forall_mem_cons.2 ⟨fd_sp_l2Row, List.forall_mem_cons.2 ⟨fd_sp_l11Small, List.forall_mem_cons.2 ⟨fd_sp_l1In, fun _ h => absurd h List.not_mem_nil⟩⟩⟩)) tabOK ok_sp_l11Flows
theorem e_sp_l1Own : ∀ x : D_sp_l1Own.T, ((acode E_sp_l1Own tt Z_sp_l1Own (orcOf O_sp_l1Own) C_sp_l1Own (entry A_sp_l1Own I_sp_l1Own x)).map (keepRet tt K_sp_l1Own)).ev = ((T_sp_l1Own x.1.1).map fun r => some (((((), ()), (r, ()))) : K_sp_l1Own.T)).ev := fun _ => by kernel_rfl
theorem o_sp_l1Own : LoopsOK E_sp_l1Own tt Z_sp_l1Own O_sp_l1Own C_sp_l1Own := by
  have h : loopsOf C_sp_l1Own = [] := by kernel_rfl
  unfold LoopsOK
  rw [h]
  exact fun _ h => absurd h List.not_mem_nil
theorem ok_sp_l1Own : FnOK prog E_sp_l1Own tt 142 D_sp_l1Own K_sp_l1Own Z_sp_l1Own O_sp_l1Own f142 C_sp_l1Own (fun x => T_sp_l1Own x.1.1) (fun r => (((), ()), (r, ()))) where
  at_ := func142
  name := by kernel_rfl
  body := by kernel_rfl
  res := by kernel_rfl
  ok := by kernel_rfl
  arity := fun _ => Nat.le_of_ble_eq_true (by kernel_rfl)
  pin := fun _ => by kernel_rfl
  chk := by kernel_rfl
  loops := o_sp_l1Own
  run := e_sp_l1Own
  F := fun _ => rfl
  emb := fun _ => rfl
theorem fd_sp_l1Own : FDok prog (142, D_sp_l1Own) := fn_ok mixed (env_ok (fun _ h => absurd h List.not_mem_nil)) tabOK ok_sp_l1Own
theorem e_sp_l1Put : ∀ x : D_sp_l1Put.T, ((acode E_sp_l1Put tt Z_sp_l1Put (orcOf O_sp_l1Put) C_sp_l1Put (entry A_sp_l1Put I_sp_l1Put x)).map (keepRet tt K_sp_l1Put)).ev = ((T_sp_l1Put x.1.1 x.1.2.1).map fun r => some ((((r, ()), ())) : K_sp_l1Put.T)).ev := fun _ => by kernel_rfl
noncomputable def B_sp_l1Put_0 : Code := ((loopsOf C_sp_l1Put).find? fun p => Nat.beq p.1 0).elim .skip (·.2)
theorem l_sp_l1Put_0 : (DL_sp_l1Put_0).OK E_sp_l1Put tt Z_sp_l1Put (orcOf O_sp_l1Put) B_sp_l1Put_0 where
  ok := by kernel_rfl
  oke := by kernel_rfl
  okr := by kernel_rfl
  eta := fun _ => rfl
  step := fun _ _ => by kernel_rfl
theorem o_sp_l1Put : LoopsOK E_sp_l1Put tt Z_sp_l1Put O_sp_l1Put C_sp_l1Put := by
  have h : loopsOf C_sp_l1Put = [(0, B_sp_l1Put_0)] := by kernel_rfl
  unfold LoopsOK
  rw [h]
  exact List.forall_mem_cons.2 ⟨fun d h => (by have e : some (DL_sp_l1Put_0) = some d := h; cases e; exact l_sp_l1Put_0), fun _ h => absurd h List.not_mem_nil⟩
theorem ok_sp_l1Put : FnOK prog E_sp_l1Put tt 143 D_sp_l1Put K_sp_l1Put Z_sp_l1Put O_sp_l1Put f143 C_sp_l1Put (fun x => T_sp_l1Put x.1.1 x.1.2.1) (fun r => ((r, ()), ())) where
  at_ := func143
  name := by kernel_rfl
  body := by kernel_rfl
  res := by kernel_rfl
  ok := by kernel_rfl
  arity := fun _ => Nat.le_of_ble_eq_true (by kernel_rfl)
  pin := fun _ => by kernel_rfl
  chk := by kernel_rfl
  loops := o_sp_l1Put
  run := e_sp_l1Put
  F := fun _ => rfl
  emb := fun _ => rfl
theorem fd_sp_l1Put : FDok prog (143, D_sp_l1Put) := fn_ok mixed (env_ok (fun _ h => absurd h List.not_mem_nil)) tabOK ok_sp_l1Put
theorem e_sp_l11Hubs : ∀ x : D_sp_l11Hubs.T, ((acode E_sp_l11Hubs tt Z_sp_l11Hubs (orcOf O_sp_l11Hubs) C_sp_l11Hubs (entry A_sp_l11Hubs I_sp_l11Hubs x)).map (keepRet tt K_sp_l11Hubs)).ev = ((T_sp_l11Hubs x.1.1 x.1.2.1).map fun r => some ((((r, ()), ())) : K_sp_l11Hubs.T)).ev := fun _ => by kernel_rfl
noncomputable def B_sp_l11Hubs_0 : Code := ((loopsOf C_sp_l11Hubs).find? fun p => Nat.beq p.1 0).elim .skip (·.2)
theorem l_sp_l11Hubs_0 : (DL_sp_l11Hubs_0).OK E_sp_l11Hubs tt Z_sp_l11Hubs (orcOf O_sp_l11Hubs) B_sp_l11Hubs_0 where
  ok := by kernel_rfl
  oke := by kernel_rfl
  okr := by kernel_rfl
  eta := fun _ => rfl
  step := fun _ _ => by kernel_rfl
noncomputable def B_sp_l11Hubs_2 : Code := ((loopsOf C_sp_l11Hubs).find? fun p => Nat.beq p.1 2).elim .skip (·.2)
theorem l_sp_l11Hubs_2 : (DL_sp_l11Hubs_2).OK E_sp_l11Hubs tt Z_sp_l11Hubs (orcOf O_sp_l11Hubs) B_sp_l11Hubs_2 where
  ok := by kernel_rfl
  oke := by kernel_rfl
  okr := by kernel_rfl
  eta := fun _ => rfl
  step := fun _ _ => by kernel_rfl
theorem o_sp_l11Hubs : LoopsOK E_sp_l11Hubs tt Z_sp_l11Hubs O_sp_l11Hubs C_sp_l11Hubs := by
  have h : loopsOf C_sp_l11Hubs = [(0, B_sp_l11Hubs_0), (2, B_sp_l11Hubs_2)] := by kernel_rfl
  unfold LoopsOK
  rw [h]
  exact List.forall_mem_cons.2 ⟨fun d h => (by have e : some (DL_sp_l11Hubs_0) = some d := h; cases e; exact l_sp_l11Hubs_0), List.forall_mem_cons.2 ⟨fun d h => (by have e : some (DL_sp_l11Hubs_2) = some d := h; cases e; exact l_sp_l11Hubs_2), fun _ h => absurd h List.not_mem_nil⟩⟩
theorem ok_sp_l11Hubs : FnOK prog E_sp_l11Hubs tt 125 D_sp_l11Hubs K_sp_l11Hubs Z_sp_l11Hubs O_sp_l11Hubs f125 C_sp_l11Hubs (fun x => T_sp_l11Hubs x.1.1 x.1.2.1) (fun r => ((r, ()), ())) where
  at_ := func125
  name := by kernel_rfl
  body := by kernel_rfl
  res := by kernel_rfl
  ok := by kernel_rfl
  arity := fun _ => Nat.le_of_ble_eq_true (by kernel_rfl)
  pin := fun _ => by kernel_rfl
  chk := by kernel_rfl
  loops := o_sp_l11Hubs
  run := e_sp_l11Hubs
  F := fun _ => rfl
  emb := fun _ => rfl
theorem fd_sp_l11Hubs : FDok prog (125, D_sp_l11Hubs) := fn_ok mixed (env_ok (List.forall_mem_cons.2 ⟨fd_sp_l1In, fun _ h => absurd h List.not_mem_nil⟩)) tabOK ok_sp_l11Hubs
theorem e_sp_l11Cost : ∀ x : D_sp_l11Cost.T, ((acode E_sp_l11Cost tt Z_sp_l11Cost (orcOf O_sp_l11Cost) C_sp_l11Cost (entry A_sp_l11Cost I_sp_l11Cost x)).map (keepRet tt K_sp_l11Cost)).ev = ((T_sp_l11Cost x.1.1 x.1.2.1 x.1.2.2.1 x.1.2.2.2.1).map fun r => some ((((r, ()), ())) : K_sp_l11Cost.T)).ev := fun _ => by kernel_rfl
noncomputable def B_sp_l11Cost_2 : Code := ((loopsOf C_sp_l11Cost).find? fun p => Nat.beq p.1 2).elim .skip (·.2)
theorem l_sp_l11Cost_2 : (DL_sp_l11Cost_2).OK E_sp_l11Cost tt Z_sp_l11Cost (orcOf O_sp_l11Cost) B_sp_l11Cost_2 where
  ok := by kernel_rfl
  oke := by kernel_rfl
  okr := by kernel_rfl
  eta := fun _ => rfl
  step := fun _ _ => by kernel_rfl
noncomputable def B_sp_l11Cost_0 : Code := ((loopsOf C_sp_l11Cost).find? fun p => Nat.beq p.1 0).elim .skip (·.2)
theorem l_sp_l11Cost_0 : (DL_sp_l11Cost_0).OK E_sp_l11Cost tt Z_sp_l11Cost (orcOf O_sp_l11Cost) B_sp_l11Cost_0 where
  ok := by kernel_rfl
  oke := by kernel_rfl
  okr := by kernel_rfl
  eta := fun _ => rfl
  step := fun _ _ => by kernel_rfl
theorem o_sp_l11Cost : LoopsOK E_sp_l11Cost tt Z_sp_l11Cost O_sp_l11Cost C_sp_l11Cost := by
  have h : loopsOf C_sp_l11Cost = [(0, B_sp_l11Cost_0), (2, B_sp_l11Cost_2)] := by kernel_rfl
  unfold LoopsOK
  rw [h]
  exact List.forall_mem_cons.2 ⟨fun d h => (by have e : some (DL_sp_l11Cost_0) = some d := h; cases e; exact l_sp_l11Cost_0), List.forall_mem_cons.2 ⟨fun d h => (by have e : some (DL_sp_l11Cost_2) = some d := h; cases e; exact l_sp_l11Cost_2), fun _ h => absurd h List.not_mem_nil⟩⟩
theorem ok_sp_l11Cost : FnOK prog E_sp_l11Cost tt 126 D_sp_l11Cost K_sp_l11Cost Z_sp_l11Cost O_sp_l11Cost f126 C_sp_l11Cost (fun x => T_sp_l11Cost x.1.1 x.1.2.1 x.1.2.2.1 x.1.2.2.2.1) (fun r => ((r, ()), ())) where
  at_ := func126
  name := by kernel_rfl
  body := by kernel_rfl
  res := by kernel_rfl
  ok := by kernel_rfl
  arity := fun _ => Nat.le_of_ble_eq_true (by kernel_rfl)
  pin := fun _ => by kernel_rfl
  chk := by kernel_rfl
  loops := o_sp_l11Cost
  run := e_sp_l11Cost
  F := fun _ => rfl
  emb := fun _ => rfl
theorem fd_sp_l11Cost : FDok prog (126, D_sp_l11Cost) := fn_ok mixed (env_ok (fun _ h => absurd h List.not_mem_nil)) tabOK ok_sp_l11Cost
theorem e_sp_l11Try (rec_ : (List (List (Int))) → (List (List (Int))) → (Int) → (Int) → (List (Int)) → (List (Int)) → Option (List (Int))) : ∀ x : (Dr_sp_l11Try rec_).T, ((acode (E_sp_l11Try rec_) tt Z_sp_l11Try (orcOf (O_sp_l11Try rec_)) C_sp_l11Try (entry A_sp_l11Try I_sp_l11Try x)).map (keepRet tt K_sp_l11Try)).ev = ((T_sp_l11Try rec_ x.1.1 x.1.2.1 x.1.2.2.1 x.1.2.2.2.1 x.1.2.2.2.2.1 x.1.2.2.2.2.2.1).map fun r => some ((((r, ()), ())) : K_sp_l11Try.T)).ev := fun _ => by kernel_rfl
noncomputable def B_sp_l11Try_0 : Code := ((loopsOf C_sp_l11Try).find? fun p => Nat.beq p.1 0).elim .skip (·.2)
theorem l_sp_l11Try_0 (rec_ : (List (List (Int))) → (List (List (Int))) → (Int) → (Int) → (List (Int)) → (List (Int)) → Option (List (Int))) : (DL_sp_l11Try_0 rec_).OK (E_sp_l11Try rec_) tt Z_sp_l11Try (orcOf (O_sp_l11Try rec_)) B_sp_l11Try_0 where
  ok := by kernel_rfl
  oke := by kernel_rfl
  okr := by kernel_rfl
  eta := fun _ => rfl
  step := fun _ _ => by kernel_rfl
noncomputable def B_sp_l11Try_2 : Code := ((loopsOf C_sp_l11Try).find? fun p => Nat.beq p.1 2).elim .skip (·.2)
theorem l_sp_l11Try_2 (rec_ : (List (List (Int))) → (List (List (Int))) → (Int) → (Int) → (List (Int)) → (List (Int)) → Option (List (Int))) : (DL_sp_l11Try_2 rec_).OK (E_sp_l11Try rec_) tt Z_sp_l11Try (orcOf (O_sp_l11Try rec_)) B_sp_l11Try_2 where
  ok := by kernel_rfl
  oke := by kernel_rfl
  okr := by kernel_rfl
  eta := fun _ => rfl
  step := fun _ _ => by kernel_rfl
theorem o_sp_l11Try (rec_ : (List (List (Int))) → (List (List (Int))) → (Int) → (Int) → (List (Int)) → (List (Int)) → Option (List (Int))) : LoopsOK (E_sp_l11Try rec_) tt Z_sp_l11Try (O_sp_l11Try rec_) C_sp_l11Try := by
  have h : loopsOf C_sp_l11Try = [(0, B_sp_l11Try_0), (2, B_sp_l11Try_2)] := by kernel_rfl
  unfold LoopsOK
  rw [h]
  exact List.forall_mem_cons.2 ⟨fun d h => (by have e : some (DL_sp_l11Try_0 rec_) = some d := h; cases e; exact l_sp_l11Try_0 rec_), List.forall_mem_cons.2 ⟨fun d h => (by have e : some (DL_sp_l11Try_2 rec_) = some d := h; cases e; exact l_sp_l11Try_2 rec_), fun _ h => absurd h List.not_mem_nil⟩⟩
theorem ok_sp_l11Try (n : Nat) : FnOK prog (E_sp_l11Try (F_sp_l11Try n)) tt 85 (D_sp_l11Try (n + 1)) K_sp_l11Try Z_sp_l11Try (O_sp_l11Try (F_sp_l11Try n)) f85 C_sp_l11Try (fun x => T_sp_l11Try (F_sp_l11Try n) x.1.1 x.1.2.1 x.1.2.2.1 x.1.2.2.2.1 x.1.2.2.2.2.1 x.1.2.2.2.2.2.1) (fun r => ((r, ()), ())) where
  at_ := func85
  name := by kernel_rfl
  body := by kernel_rfl
  res := by kernel_rfl
  ok := by kernel_rfl
  arity := fun _ => Nat.le_of_ble_eq_true (by kernel_rfl)
  pin := fun _ => by kernel_rfl
  chk := by kernel_rfl
  loops := o_sp_l11Try (F_sp_l11Try n)
  run := e_sp_l11Try (F_sp_l11Try n)
  F := fun _ => rfl
  emb := fun _ => rfl
theorem fd_sp_l11Try : ∀ n : Nat, FDok prog (85, D_sp_l11Try n)
  | 0 => fun _ _ h => nomatch h
  | n + 1 => fn_ok mixed (env_ok (List.forall_mem_cons.2 ⟨fd_sp_l1Own, List.forall_mem_cons.2 ⟨fd_sp_l11Try n, List.forall_mem_cons.2 ⟨fd_sp_l1Put, List.forall_mem_cons.2 ⟨fd_sp_l11Hubs, List.forall_mem_cons.2 ⟨fd_sp_l11Cost, fun _ h => absurd h List.not_mem_nil⟩⟩⟩⟩⟩)) tabOK (ok_sp_l11Try n)
theorem e_sp_BestHubs : ∀ x : D_sp_BestHubs.T, ((acode E_sp_BestHubs tt Z_sp_BestHubs (orcOf O_sp_BestHubs) C_sp_BestHubs (entry A_sp_BestHubs I_sp_BestHubs x)).map (keepRet tt K_sp_BestHubs)).ev = ((T_sp_BestHubs x.1.1 x.1.2.1 x.1.2.2.1 x.1.2.2.2.1).map fun r => some ((((r.1, (r.2, ())), ())) : K_sp_BestHubs.T)).ev := fun _ => by kernel_rfl
theorem o_sp_BestHubs : LoopsOK E_sp_BestHubs tt Z_sp_BestHubs O_sp_BestHubs C_sp_BestHubs := by
  have h : loopsOf C_sp_BestHubs = [] := by kernel_rfl
  unfold LoopsOK
  rw [h]
  exact fun _ h => absurd h List.not_mem_nil
theorem ok_sp_BestHubs : FnOK prog E_sp_BestHubs tt 30 D_sp_BestHubs K_sp_BestHubs Z_sp_BestHubs O_sp_BestHubs f30 C_sp_BestHubs (fun x => T_sp_BestHubs x.1.1 x.1.2.1 x.1.2.2.1 x.1.2.2.2.1) (fun r => ((r.1, (r.2, ())), ())) where
  at_ := func30
  name := by kernel_rfl
  body := by kernel_rfl
  res := by kernel_rfl
  ok := by kernel_rfl
  arity := fun _ => Nat.le_of_ble_eq_true (by kernel_rfl)
  pin := fun _ => by kernel_rfl
  chk := by kernel_rfl
  loops := o_sp_BestHubs
  run := e_sp_BestHubs
  F := fun _ => rfl
  emb := fun _ => rfl
theorem fd_sp_BestHubs : FDok prog (30, D_sp_BestHubs) := fn_ok mixed (env_ok (List.forall_mem_cons.2 ⟨fd_sp_l11Flows, List.forall_mem_cons.2 ⟨fd_sp_l1In, List.forall_mem_cons.2 ⟨fd_sp_l11Try 1000000, fun _ h => absurd h List.not_mem_nil⟩⟩⟩)) tabOK ok_sp_BestHubs
theorem e_slices_IndexFunc_Sint_int : ∀ x : D_slices_IndexFunc_Sint_int.T, ((acode E_slices_IndexFunc_Sint_int tt Z_slices_IndexFunc_Sint_int (orcOf O_slices_IndexFunc_Sint_int) C_slices_IndexFunc_Sint_int (entry A_slices_IndexFunc_Sint_int I_slices_IndexFunc_Sint_int x)).map (keepRet tt K_slices_IndexFunc_Sint_int)).ev = ((T_slices_IndexFunc_Sint_int x.1.1 x.1.2.1).map fun r => some ((((r, ()), ())) : K_slices_IndexFunc_Sint_int.T)).ev := fun _ => by kernel_rfl
noncomputable def B_slices_IndexFunc_Sint_int_0 : Code := ((loopsOf C_slices_IndexFunc_Sint_int).find? fun p => Nat.beq p.1 0).elim .skip (·.2)
theorem l_slices_IndexFunc_Sint_int_0 : (DL_slices_IndexFunc_Sint_int_0).OK E_slices_IndexFunc_Sint_int tt Z_slices_IndexFunc_Sint_int (orcOf O_slices_IndexFunc_Sint_int) B_slices_IndexFunc_Sint_int_0 where
  ok := by kernel_rfl
  oke := by kernel_rfl
  okr := by kernel_rfl
  eta := fun _ => rfl
  step := fun _ _ => by kernel_rfl
theorem o_slices_IndexFunc_Sint_int : LoopsOK E_slices_IndexFunc_Sint_int tt Z_slices_IndexFunc_Sint_int O_slices_IndexFunc_Sint_int C_slices_IndexFunc_Sint_int := by
  have h : loopsOf C_slices_IndexFunc_Sint_int = [(0, B_slices_IndexFunc_Sint_int_0)] := by kernel_rfl
  unfold LoopsOK
  rw [h]
  exact List.forall_mem_cons.2 ⟨fun d h => (by have e : some (DL_slices_IndexFunc_Sint_int_0) = some d := h; cases e; exact l_slices_IndexFunc_Sint_int_0), fun _ h => absurd h List.not_mem_nil⟩
theorem ok_slices_IndexFunc_Sint_int : FnOK prog E_slices_IndexFunc_Sint_int tt 152 D_slices_IndexFunc_Sint_int K_slices_IndexFunc_Sint_int Z_slices_IndexFunc_Sint_int O_slices_IndexFunc_Sint_int f152 C_slices_IndexFunc_Sint_int (fun x => T_slices_IndexFunc_Sint_int x.1.1 x.1.2.1) (fun r => ((r, ()), ())) where
  at_ := func152
  name := by kernel_rfl
  body := by kernel_rfl
  res := by kernel_rfl
  ok := by kernel_rfl
  arity := fun _ => Nat.le_of_ble_eq_true (by kernel_rfl)
  pin := fun _ => by kernel_rfl
  chk := by kernel_rfl
  loops := o_slices_IndexFunc_Sint_int
  run := e_slices_IndexFunc_Sint_int
  F := fun _ => rfl
  emb := fun _ => rfl
theorem fd_slices_IndexFunc_Sint_int : FDok prog (152, D_slices_IndexFunc_Sint_int) := fn_ok mixed (env_ok (fun _ h => absurd h List.not_mem_nil)) tabOK ok_slices_IndexFunc_Sint_int
theorem e_slices_ContainsFunc_Sint_int : ∀ x : D_slices_ContainsFunc_Sint_int.T, ((acode E_slices_ContainsFunc_Sint_int tt Z_slices_ContainsFunc_Sint_int (orcOf O_slices_ContainsFunc_Sint_int) C_slices_ContainsFunc_Sint_int (entry A_slices_ContainsFunc_Sint_int I_slices_ContainsFunc_Sint_int x)).map (keepRet tt K_slices_ContainsFunc_Sint_int)).ev = ((T_slices_ContainsFunc_Sint_int x.1.1 x.1.2.1).map fun r => some ((((r, ()), ())) : K_slices_ContainsFunc_Sint_int.T)).ev := fun _ => by kernel_rfl
theorem o_slices_ContainsFunc_Sint_int : LoopsOK E_slices_ContainsFunc_Sint_int tt Z_slices_ContainsFunc_Sint_int O_slices_ContainsFunc_Sint_int C_slices_ContainsFunc_Sint_int := by
  have h : loopsOf C_slices_ContainsFunc_Sint_int = [] := by kernel_rfl
  unfold LoopsOK
  rw [h]
  exact fun _ h => absurd h List.not_mem_nil
theorem ok_slices_ContainsFunc_Sint_int : FnOK prog E_slices_ContainsFunc_Sint_int tt 99 D_slices_ContainsFunc_Sint_int K_slices_ContainsFunc_Sint_int Z_slices_ContainsFunc_Sint_int O_slices_ContainsFunc_Sint_int f99 C_slices_ContainsFunc_Sint_int (fun x => T_slices_ContainsFunc_Sint_int x.1.1 x.1.2.1) (fun r => ((r, ()), ())) where
  at_ := func99
  name := by kernel_rfl
  body := by kernel_rfl
  res := by kernel_rfl
  ok := by kernel_rfl
  arity := fun _ => Nat.le_of_ble_eq_true (by kernel_rfl)
  pin := fun _ => by kernel_rfl
  chk := by kernel_rfl
  loops := o_slices_ContainsFunc_Sint_int
  run := e_slices_ContainsFunc_Sint_int
  F := fun _ => rfl
  emb := fun _ => rfl
theorem fd_slices_ContainsFunc_Sint_int : FDok prog (99, D_slices_ContainsFunc_Sint_int) := fn_ok mixed (env_ok (List.forall_mem_cons.2 ⟨fd_slices_IndexFunc_Sint_int, fun _ h => absurd h List.not_mem_nil⟩)) tabOK ok_slices_ContainsFunc_Sint_int
theorem e_im_between : ∀ x : D_im_between.T, ((acode E_im_between tt Z_im_between (orcOf O_im_between) C_im_between (entry A_im_between I_im_between x)).map (keepRet tt K_im_between)).ev = ((T_im_between x.1.1 x.1.2.1 x.1.2.2.1).map fun r => some ((((r, ()), ())) : K_im_between.T)).ev := fun _ => by kernel_rfl
theorem o_im_between : LoopsOK E_im_between tt Z_im_between O_im_between C_im_between := by
  have h : loopsOf C_im_between = [] := by kernel_rfl
  unfold LoopsOK
  rw [h]
  exact fun _ h => absurd h List.not_mem_nil
theorem ok_im_between : FnOK prog E_im_between tt 67 D_im_between K_im_between Z_im_between O_im_between f67 C_im_between (fun x => T_im_between x.1.1 x.1.2.1 x.1.2.2.1) (fun r => ((r, ()), ())) where
  at_ := func67
  name := by kernel_rfl
  body := by kernel_rfl
  res := by kernel_rfl
  ok := by kernel_rfl
  arity := fun _ => Nat.le_of_ble_eq_true (by kernel_rfl)
  pin := fun _ => by kernel_rfl
  chk := by kernel_rfl
  loops := o_im_between
  run := e_im_between
  F := fun _ => rfl
  emb := fun _ => rfl
theorem fd_im_between : FDok prog (67, D_im_between) := fn_ok mixed (env_ok (fun _ h => absurd h List.not_mem_nil)) tabOK ok_im_between
theorem e_im_areBetween_1 : ∀ x : D_im_areBetween_1.T, ((acode E_im_areBetween_1 tt Z_im_areBetween_1 (orcOf O_im_areBetween_1) C_im_areBetween_1 (entry A_im_areBetween_1 I_im_areBetween_1 x)).map (keepRet tt K_im_areBetween_1)).ev = ((T_im_areBetween_1 x.1.1 x.1.2.1.1 x.1.2.2.1.1).map fun r => some ((((r, ()), ())) : K_im_areBetween_1.T)).ev := fun _ => by kernel_rfl
theorem o_im_areBetween_1 : LoopsOK E_im_areBetween_1 tt Z_im_areBetween_1 O_im_areBetween_1 C_im_areBetween_1 := by
  have h : loopsOf C_im_areBetween_1 = [] := by kernel_rfl
  unfold LoopsOK
  rw [h]
  exact fun _ h => absurd h List.not_mem_nil
theorem ok_im_areBetween_1 : FnOK prog E_im_areBetween_1 tt 178 D_im_areBetween_1 K_im_areBetween_1 Z_im_areBetween_1 O_im_areBetween_1 f178 C_im_areBetween_1 (fun x => T_im_areBetween_1 x.1.1 x.1.2.1.1 x.1.2.2.1.1) (fun r => ((r, ()), ())) where
  at_ := func178
  name := by kernel_rfl
  body := by kernel_rfl
  res := by kernel_rfl
  ok := by kernel_rfl
  arity := fun _ => Nat.le_of_ble_eq_true (by kernel_rfl)
  pin := fun _ => by kernel_rfl
  chk := by kernel_rfl
  loops := o_im_areBetween_1
  run := e_im_areBetween_1
  F := fun _ => rfl
  emb := fun _ => rfl
theorem fd_im_areBetween_1 : FDok prog (178, D_im_areBetween_1) := fn_ok mixed (env_ok (List.forall_mem_cons.2 ⟨fd_im_between, fun _ h => absurd h List.not_mem_nil⟩)) tabOK ok_im_areBetween_1
theorem e_im_areBetween : ∀ x : D_im_areBetween.T, ((acode E_im_areBetween tt Z_im_areBetween (orcOf O_im_areBetween) C_im_areBetween (entry A_im_areBetween I_im_areBetween x)).map (keepRet tt K_im_areBetween)).ev = ((T_im_areBetween x.1.1 x.1.2.1 x.1.2.2.1).map fun r => some ((((r, ()), ())) : K_im_areBetween.T)).ev := fun _ => by kernel_rfl
theorem o_im_areBetween : LoopsOK E_im_areBetween tt Z_im_areBetween O_im_areBetween C_im_areBetween := by
  have h : loopsOf C_im_areBetween = [] := by kernel_rfl
  unfold LoopsOK
  rw [h]
  exact fun _ h => absurd h List.not_mem_nil
theorem ok_im_areBetween : FnOK prog E_im_areBetween tt 133 D_im_areBetween K_im_areBetween Z_im_areBetween O_im_areBetween f133 C_im_areBetween (fun x => T_im_areBetween x.1.1 x.1.2.1 x.1.2.2.1) (fun r => ((r, ()), ())) where
  at_ := func133
  name := by kernel_rfl
  body := by kernel_rfl
  res := by kernel_rfl
  ok := by kernel_rfl
  arity := fun _ => Nat.le_of_ble_eq_true (by kernel_rfl)
  pin := fun _ => by kernel_rfl
  chk := by kernel_rfl
  loops := o_im_areBetween
  run := e_im_areBetween
  F := fun _ => rfl
  emb := fun _ => rfl
theorem fd_im_areBetween : FDok prog (133, D_im_areBetween) := fn_ok mixed (env_ok (List.forall_mem_cons.2 ⟨fd_slices_ContainsFunc_Sint_int, List.forall_mem_cons.2 ⟨fd_slices_ContainsFunc_Sint_int, List.forall_mem_cons.2 ⟨fd_im_areBetween_1, fun _ h => absurd h List.not_mem_nil⟩⟩⟩)) tabOK ok_im_areBetween
theorem e_im_IsGround : ∀ x : D_im_IsGround.T, ((acode E_im_IsGround tt Z_im_IsGround (orcOf O_im_IsGround) C_im_IsGround (entry A_im_IsGround I_im_IsGround x)).map (keepRet tt K_im_IsGround)).ev = ((T_im_IsGround x.1.1).map fun r => some ((((r, ()), ())) : K_im_IsGround.T)).ev := fun _ => by kernel_rfl
noncomputable def B_im_IsGround_0 : Code := ((loopsOf C_im_IsGround).find? fun p => Nat.beq p.1 0).elim .skip (·.2)
theorem l_im_IsGround_0 : (DL_im_IsGround_0).OK E_im_IsGround tt Z_im_IsGround (orcOf O_im_IsGround) B_im_IsGround_0 where
  ok := by kernel_rfl
  oke := by kernel_rfl
  okr := by kernel_rfl
  eta := fun _ => rfl
  step := fun _ _ => by kernel_rfl
noncomputable def B_im_IsGround_4 : Code := ((loopsOf C_im_IsGround).find? fun p => Nat.beq p.1 4).elim .skip (·.2)
theorem l_im_IsGround_4 : (DL_im_IsGround_4).OK E_im_IsGround tt Z_im_IsGround (orcOf O_im_IsGround) B_im_IsGround_4 where
  ok := by kernel_rfl
  oke := by kernel_rfl
  okr := by kernel_rfl
  eta := fun _ => rfl
  step := fun _ _ => by kernel_rfl
noncomputable def B_im_IsGround_2 : Code := ((loopsOf C_im_IsGround).find? fun p => Nat.beq p.1 2).elim .skip (·.2)
theorem l_im_IsGround_2 : (DL_im_IsGround_2).OK E_im_IsGround tt Z_im_IsGround (orcOf O_im_IsGround) B_im_IsGround_2 where
  ok := by kernel_rfl
  oke := by kernel_rfl
  okr := by kernel_rfl
  eta := fun _ => rfl
  step := fun _ _ => by kernel_rfl
theorem o_im_IsGround : LoopsOK E_im_IsGround tt Z_im_IsGround O_im_IsGround C_im_IsGround := by
  have h : loopsOf C_im_IsGround = [(0, B_im_IsGround_0), (2, B_im_IsGround_2), (4, B_im_IsGround_4)] := by kernel_rfl
  unfold LoopsOK
  rw [h]
  exact List.forall_mem_cons.2 ⟨fun d h => (by have e : some (DL_im_IsGround_0) = some d := h; cases e; exact l_im_IsGround_0), List.forall_mem_cons.2 ⟨fun d h => (by have e : some (DL_im_IsGround_2) = some d := h; cases e; exact l_im_IsGround_2), List.forall_mem_cons.2 ⟨fun d h => (by have e : some (DL_im_IsGround_4) = some d := h; cases e; exact l_im_IsGround_4), fun _ h => absurd h List.not_mem_nil⟩⟩⟩
theorem ok_im_IsGround : FnOK prog E_im_IsGround tt 66 D_im_IsGround K_im_IsGround Z_im_IsGround O_im_IsGround f66 C_im_IsGround (fun x => T_im_IsGround x.1.1) (fun r => ((r, ()), ())) where
  at_ := func66
  name := by kernel_rfl
  body := by kernel_rfl
  res := by kernel_rfl
  ok := by kernel_rfl
  arity := fun _ => Nat.le_of_ble_eq_true (by kernel_rfl)
  pin := fun _ => by kernel_rfl
  chk := by kernel_rfl
  loops := o_im_IsGround
  run := e_im_IsGround
  F := fun _ => rfl
  emb := fun _ => rfl
theorem fd_im_IsGround : FDok prog (66, D_im_IsGround) := fn_ok mixed (env_ok (List.forall_mem_cons.2 ⟨fd_im_areBetween, fun _ h => absurd h List.not_mem_nil⟩)) tabOK ok_im_IsGround
theorem e_im_isNet : ∀ x : D_im_isNet.T, ((acode E_im_isNet tt Z_im_isNet (orcOf O_im_isNet) C_im_isNet (entry A_im_isNet I_im_isNet x)).map (keepRet tt K_im_isNet)).ev = ((T_im_isNet x.1.1).map fun r => some ((((r, ()), ())) : K_im_isNet.T)).ev := fun _ => by kernel_rfl
theorem o_im_isNet : LoopsOK E_im_isNet tt Z_im_isNet O_im_isNet C_im_isNet := by
  have h : loopsOf C_im_isNet = [] := by kernel_rfl
  unfold LoopsOK
  rw [h]
  exact fun _ h => absurd h List.not_mem_nil
theorem ok_im_isNet : FnOK prog E_im_isNet tt 86 D_im_isNet K_im_isNet Z_im_isNet O_im_isNet f86 C_im_isNet (fun x => T_im_isNet x.1.1) (fun r => ((r, ()), ())) where
  at_ := func86
  name := by kernel_rfl
  body := by kernel_rfl
  res := by kernel_rfl
  ok := by kernel_rfl
  arity := fun _ => Nat.le_of_ble_eq_true (by kernel_rfl)
  pin := fun _ => by kernel_rfl
  chk := by kernel_rfl
  loops := o_im_isNet
  run := e_im_isNet
  F := fun _ => rfl
  emb := fun _ => rfl
theorem fd_im_isNet : FDok prog (86, D_im_isNet) := fn_ok mixed (env_ok (List.forall_mem_cons.2 ⟨fd_im_IsGround, fun _ h => absurd h List.not_mem_nil⟩)) tabOK ok_im_isNet
theorem e_slices_IndexFunc_SSint_Sint : ∀ x : D_slices_IndexFunc_SSint_Sint.T, ((acode E_slices_IndexFunc_SSint_Sint tt Z_slices_IndexFunc_SSint_Sint (orcOf O_slices_IndexFunc_SSint_Sint) C_slices_IndexFunc_SSint_Sint (entry A_slices_IndexFunc_SSint_Sint I_slices_IndexFunc_SSint_Sint x)).map (keepRet tt K_slices_IndexFunc_SSint_Sint)).ev = ((T_slices_IndexFunc_SSint_Sint x.1.1 x.1.2.1).map fun r => some ((((r, ()), ())) : K_slices_IndexFunc_SSint_Sint.T)).ev := fun _ => by kernel_rfl
noncomputable def B_slices_IndexFunc_SSint_Sint_0 : Code := ((loopsOf C_slices_IndexFunc_SSint_Sint).find? fun p => Nat.beq p.1 0).elim .skip (·.2)
theorem l_slices_IndexFunc_SSint_Sint_0 : (DL_slices_IndexFunc_SSint_Sint_0).OK E_slices_IndexFunc_SSint_Sint tt Z_slices_IndexFunc_SSint_Sint (orcOf O_slices_IndexFunc_SSint_Sint) B_slices_IndexFunc_SSint_Sint_0 where
  ok := by kernel_rfl
  oke := by kernel_rfl
  okr := by kernel_rfl
  eta := fun _ => rfl
  step := fun _ _ => by kernel_rfl
theorem o_slices_IndexFunc_SSint_Sint : LoopsOK E_slices_IndexFunc_SSint_Sint tt Z_slices_IndexFunc_SSint_Sint O_slices_IndexFunc_SSint_Sint C_slices_IndexFunc_SSint_Sint := by
  have h : loopsOf C_slices_IndexFunc_SSint_Sint = [(0, B_slices_IndexFunc_SSint_Sint_0)] := by kernel_rfl
  unfold LoopsOK
  rw [h]
  exact List.forall_mem_cons.2 ⟨fun d h => (by have e : some (DL_slices_IndexFunc_SSint_Sint_0) = some d := h; cases e; exact l_slices_IndexFunc_SSint_Sint_0), fun _ h => absurd h List.not_mem_nil⟩
theorem ok_slices_IndexFunc_SSint_Sint : FnOK prog E_slices_IndexFunc_SSint_Sint tt 179 D_slices_IndexFunc_SSint_Sint K_slices_IndexFunc_SSint_Sint Z_slices_IndexFunc_SSint_Sint O_slices_IndexFunc_SSint_Sint f179 C_slices_IndexFunc_SSint_Sint (fun x => T_slices_IndexFunc_SSint_Sint x.1.1 x.1.2.1) (fun r => ((r, ()), ())) where
  at_ := func179
  name := by kernel_rfl
  body := by kernel_rfl
  res := by kernel_rfl
  ok := by kernel_rfl
  arity := fun _ => Nat.le_of_ble_eq_true (by kernel_rfl)
  pin := fun _ => by kernel_rfl
  chk := by kernel_rfl
  loops := o_slices_IndexFunc_SSint_Sint
  run := e_slices_IndexFunc_SSint_Sint
  F := fun _ => rfl
  emb := fun _ => rfl
theorem fd_slices_IndexFunc_SSint_Sint : FDok prog (179, D_slices_IndexFunc_SSint_Sint) := fn_ok mixed (env_ok (fun _ h => absurd h List.not_mem_nil)) tabOK ok_slices_IndexFunc_SSint_Sint
theorem e_slices_ContainsFunc_SSint_Sint : ∀ x : D_slices_ContainsFunc_SSint_Sint.T, ((acode E_slices_ContainsFunc_SSint_Sint tt Z_slices_ContainsFunc_SSint_Sint (orcOf O_slices_ContainsFunc_SSint_Sint) C_slices_ContainsFunc_SSint_Sint (entry A_slices_ContainsFunc_SSint_Sint I_slices_ContainsFunc_SSint_Sint x)).map (keepRet tt K_slices_ContainsFunc_SSint_Sint)).ev = ((T_slices_ContainsFunc_SSint_Sint x.1.1 x.1.2.1).map fun r => some ((((r, ()), ())) : K_slices_ContainsFunc_SSint_Sint.T)).ev := fun _ => by kernel_rfl
theorem o_slices_ContainsFunc_SSint_Sint : LoopsOK E_slices_ContainsFunc_SSint_Sint tt Z_slices_ContainsFunc_SSint_Sint O_slices_ContainsFunc_SSint_Sint C_slices_ContainsFunc_SSint_Sint := by
  have h : loopsOf C_slices_ContainsFunc_SSint_Sint = [] := by kernel_rfl
  unfold LoopsOK
  rw [h]
  exact fun _ h => absurd h List.not_mem_nil
theorem ok_slices_ContainsFunc_SSint_Sint : FnOK prog E_slices_ContainsFunc_SSint_Sint tt 144 D_slices_ContainsFunc_SSint_Sint K_slices_ContainsFunc_SSint_Sint Z_slices_ContainsFunc_SSint_Sint O_slices_ContainsFunc_SSint_Sint f144 C_slices_ContainsFunc_SSint_Sint (fun x => T_slices_ContainsFunc_SSint_Sint x.1.1 x.1.2.1) (fun r => ((r, ()), ())) where
  at_ := func144
  name := by kernel_rfl
  body := by kernel_rfl
  res := by kernel_rfl
  ok := by kernel_rfl
  arity := fun _ => Nat.le_of_ble_eq_true (by kernel_rfl)
  pin := fun _ => by kernel_rfl
  chk := by kernel_rfl
  loops := o_slices_ContainsFunc_SSint_Sint
  run := e_slices_ContainsFunc_SSint_Sint
  F := fun _ => rfl
  emb := fun _ => rfl
theorem fd_slices_ContainsFunc_SSint_Sint : FDok prog (144, D_slices_ContainsFunc_SSint_Sint) := fn_ok mixed (env_ok (List.forall_mem_cons.2 ⟨fd_slices_IndexFunc_SSint_Sint, fun _ h => absurd h List.not_mem_nil⟩)) tabOK ok_slices_ContainsFunc_SSint_Sint
theorem e_im_areFlows_1 : ∀ x : D_im_areFlows_1.T, ((acode E_im_areFlows_1 tt Z_im_areFlows_1 (orcOf O_im_areFlows_1) C_im_areFlows_1 (entry A_im_areFlows_1 I_im_areFlows_1 x)).map (keepRet tt K_im_areFlows_1)).ev = ((T_im_areFlows_1 x.1.1 x.1.2.1.1).map fun r => some ((((r, ()), ())) : K_im_areFlows_1.T)).ev := fun _ => by kernel_rfl
theorem o_im_areFlows_1 : LoopsOK E_im_areFlows_1 tt Z_im_areFlows_1 O_im_areFlows_1 C_im_areFlows_1 := by
  have h : loopsOf C_im_areFlows_1 = [] := by kernel_rfl
  unfold LoopsOK
  rw [h]
  exact fun _ h => absurd h List.not_mem_nil
theorem ok_im_areFlows_1 : FnOK prog E_im_areFlows_1 tt 145 D_im_areFlows_1 K_im_areFlows_1 Z_im_areFlows_1 O_im_areFlows_1 f145 C_im_areFlows_1 (fun x => T_im_areFlows_1 x.1.1 x.1.2.1.1) (fun r => ((r, ()), ())) where
  at_ := func145
  name := by kernel_rfl
  body := by kernel_rfl
  res := by kernel_rfl
  ok := by kernel_rfl
  arity := fun _ => Nat.le_of_ble_eq_true (by kernel_rfl)
  pin := fun _ => by kernel_rfl
  chk := by kernel_rfl
  loops := o_im_areFlows_1
  run := e_im_areFlows_1
  F := fun _ => rfl
  emb := fun _ => rfl
theorem fd_im_areFlows_1 : FDok prog (145, D_im_areFlows_1) := fn_ok mixed (env_ok (List.forall_mem_cons.2 ⟨fd_im_areBetween, fun _ h => absurd h List.not_mem_nil⟩)) tabOK ok_im_areFlows_1
theorem e_im_areFlows : ∀ x : D_im_areFlows.T, ((acode E_im_areFlows tt Z_im_areFlows (orcOf O_im_areFlows) C_im_areFlows (entry A_im_areFlows I_im_areFlows x)).map (keepRet tt K_im_areFlows)).ev = ((T_im_areFlows x.1.1 x.1.2.1).map fun r => some ((((r, ()), ())) : K_im_areFlows.T)).ev := fun _ => by kernel_rfl
theorem o_im_areFlows : LoopsOK E_im_areFlows tt Z_im_areFlows O_im_areFlows C_im_areFlows := by
  have h : loopsOf C_im_areFlows = [] := by kernel_rfl
  unfold LoopsOK
  rw [h]
  exact fun _ h => absurd h List.not_mem_nil
theorem ok_im_areFlows : FnOK prog E_im_areFlows tt 87 D_im_areFlows K_im_areFlows Z_im_areFlows O_im_areFlows f87 C_im_areFlows (fun x => T_im_areFlows x.1.1 x.1.2.1) (fun r => ((r, ()), ())) where
  at_ := func87
  name := by kernel_rfl
  body := by kernel_rfl
  res := by kernel_rfl
  ok := by kernel_rfl
  arity := fun _ => Nat.le_of_ble_eq_true (by kernel_rfl)
  pin := fun _ => by kernel_rfl
  chk := by kernel_rfl
  loops := o_im_areFlows
  run := e_im_areFlows
  F := fun _ => rfl
  emb := fun _ => rfl
theorem fd_im_areFlows : FDok prog (87, D_im_areFlows) := fn_ok mixed (env_ok (List.forall_mem_cons.2 ⟨fd_slices_ContainsFunc_SSint_Sint, List.forall_mem_cons.2 ⟨fd_slices_ContainsFunc_SSint_Sint, List.forall_mem_cons.2 ⟨fd_im_areFlows_1, fun _ h => absurd h List.not_mem_nil⟩⟩⟩)) tabOK ok_im_areFlows
theorem e_im_isAllocation_1 : ∀ x : D_im_isAllocation_1.T, ((acode E_im_isAllocation_1 tt Z_im_isAllocation_1 (orcOf O_im_isAllocation_1) C_im_isAllocation_1 (entry A_im_isAllocation_1 I_im_isAllocation_1 x)).map (keepRet tt K_im_isAllocation_1)).ev = ((T_im_isAllocation_1 x.1.1 x.1.2.1.1).map fun r => some ((((r, ()), ())) : K_im_isAllocation_1.T)).ev := fun _ => by kernel_rfl
theorem o_im_isAllocation_1 : LoopsOK E_im_isAllocation_1 tt Z_im_isAllocation_1 O_im_isAllocation_1 C_im_isAllocation_1 := by
  have h : loopsOf C_im_isAllocation_1 = [] := by kernel_rfl
  unfold LoopsOK
  rw [h]
  exact fun _ h => absurd h List.not_mem_nil
theorem ok_im_isAllocation_1 : FnOK prog E_im_isAllocation_1 tt 146 D_im_isAllocation_1 K_im_isAllocation_1 Z_im_isAllocation_1 O_im_isAllocation_1 f146 C_im_isAllocation_1 (fun x => T_im_isAllocation_1 x.1.1 x.1.2.1.1) (fun r => ((r, ()), ())) where
  at_ := func146
  name := by kernel_rfl
  body := by kernel_rfl
  res := by kernel_rfl
  ok := by kernel_rfl
  arity := fun _ => Nat.le_of_ble_eq_true (by kernel_rfl)
  pin := fun _ => by kernel_rfl
  chk := by kernel_rfl
  loops := o_im_isAllocation_1
  run := e_im_isAllocation_1
  F := fun _ => rfl
  emb := fun _ => rfl
theorem fd_im_isAllocation_1 : FDok prog (146, D_im_isAllocation_1) := fn_ok mixed (env_ok (fun _ h => absurd h List.not_mem_nil)) tabOK ok_im_isAllocation_1
theorem e_im_isAllocation : ∀ x : D_im_isAllocation.T, ((acode E_im_isAllocation tt Z_im_isAllocation (orcOf O_im_isAllocation) C_im_isAllocation (entry A_im_isAllocation I_im_isAllocation x)).map (keepRet tt K_im_isAllocation)).ev = ((T_im_isAllocation x.1.1 x.1.2.1).map fun r => some ((((r, ()), ())) : K_im_isAllocation.T)).ev := fun _ => by kernel_rfl
theorem o_im_isAllocation : LoopsOK E_im_isAllocation tt Z_im_isAllocation O_im_isAllocation C_im_isAllocation := by
  have h : loopsOf C_im_isAllocation = [] := by kernel_rfl
  unfold LoopsOK
  rw [h]
  exact fun _ h => absurd h List.not_mem_nil
theorem ok_im_isAllocation : FnOK prog E_im_isAllocation tt 89 D_im_isAllocation K_im_isAllocation Z_im_isAllocation O_im_isAllocation f89 C_im_isAllocation (fun x => T_im_isAllocation x.1.1 x.1.2.1) (fun r => ((r, ()), ())) where
  at_ := func89
  name := by kernel_rfl
  body := by kernel_rfl
  res := by kernel_rfl
  ok := by kernel_rfl
  arity := fun _ => Nat.le_of_ble_eq_true (by kernel_rfl)
  pin := fun _ => by kernel_rfl
  chk := by kernel_rfl
  loops := o_im_isAllocation
  run := e_im_isAllocation
  F := fun _ => rfl
  emb := fun _ => rfl
theorem fd_im_isAllocation : FDok prog (89, D_im_isAllocation) := fn_ok mixed (env_ok (List.forall_mem_cons.2 ⟨fd_im_areBetween, List.forall_mem_cons.2 ⟨fd_slices_ContainsFunc_Sint_int, List.forall_mem_cons.2 ⟨fd_slices_ContainsFunc_Sint_int, List.forall_mem_cons.2 ⟨fd_im_isAllocation_1, fun _ h => absurd h List.not_mem_nil⟩⟩⟩⟩)) tabOK ok_im_isAllocation
theorem e_im_bagOf : ∀ x : D_im_bagOf.T, ((acode E_im_bagOf tt Z_im_bagOf (orcOf O_im_bagOf) C_im_bagOf (entry A_im_bagOf I_im_bagOf x)).map (keepRet tt K_im_bagOf)).ev = ((T_im_bagOf x.1.1).map fun r => some ((((r, ()), ())) : K_im_bagOf.T)).ev := fun _ => by kernel_rfl
noncomputable def B_im_bagOf_0 : Code := ((loopsOf C_im_bagOf).find? fun p => Nat.beq p.1 0).elim .skip (·.2)
theorem l_im_bagOf_0 : (DL_im_bagOf_0).OK E_im_bagOf tt Z_im_bagOf (orcOf O_im_bagOf) B_im_bagOf_0 where
  ok := by kernel_rfl
  oke := by kernel_rfl
  okr := by kernel_rfl
  eta := fun _ => rfl
  step := fun _ _ => by kernel_rfl
theorem o_im_bagOf : LoopsOK E_im_bagOf tt Z_im_bagOf O_im_bagOf C_im_bagOf := by
  have h : loopsOf C_im_bagOf = [(0, B_im_bagOf_0)] := by kernel_rfl
  unfold LoopsOK
  rw [h]
  exact List.forall_mem_cons.2 ⟨fun d h => (by have e : some (DL_im_bagOf_0) = some d := h; cases e; exact l_im_bagOf_0), fun _ h => absurd h List.not_mem_nil⟩
theorem ok_im_bagOf : FnOK prog E_im_bagOf tt 90 D_im_bagOf K_im_bagOf Z_im_bagOf O_im_bagOf f90 C_im_bagOf (fun x => T_im_bagOf x.1.1) (fun r => ((r, ()), ())) where
  at_ := func90
  name := by kernel_rfl
  body := by kernel_rfl
  res := by kernel_rfl
  ok := by kernel_rfl
  arity := fun _ => Nat.le_of_ble_eq_true (by kernel_rfl)
  pin := fun _ => by kernel_rfl
  chk := by kernel_rfl
  loops := o_im_bagOf
  run := e_im_bagOf
  F := fun _ => rfl
  emb := fun _ => rfl
theorem fd_im_bagOf : FDok prog (90, D_im_bagOf) := fn_ok mixed (env_ok (fun _ h => absurd h List.not_mem_nil)) tabOK ok_im_bagOf
theorem e_math_bits_OnesCount64 : ∀ x : D_math_bits_OnesCount64.T, ((acode E_math_bits_OnesCount64 tt Z_math_bits_OnesCount64 (orcOf O_math_bits_OnesCount64) C_math_bits_OnesCount64 (entry A_math_bits_OnesCount64 I_math_bits_OnesCount64 x)).map (keepRet tt K_math_bits_OnesCount64)).ev = ((T_math_bits_OnesCount64 x.1.1).map fun r => some ((((r, ()), ())) : K_math_bits_OnesCount64.T)).ev := fun _ => by kernel_rfl
theorem o_math_bits_OnesCount64 : LoopsOK E_math_bits_OnesCount64 tt Z_math_bits_OnesCount64 O_math_bits_OnesCount64 C_math_bits_OnesCount64 := by
  have h : loopsOf C_math_bits_OnesCount64 = [] := by kernel_rfl
  unfold LoopsOK
  rw [h]
  exact fun _ h => absurd h List.not_mem_nil
theorem ok_math_bits_OnesCount64 : FnOK prog E_math_bits_OnesCount64 tt 188 D_math_bits_OnesCount64 K_math_bits_OnesCount64 Z_math_bits_OnesCount64 O_math_bits_OnesCount64 f188 C_math_bits_OnesCount64 (fun x => T_math_bits_OnesCount64 x.1.1) (fun r => ((r, ()), ())) where
  at_ := func188
  name := by kernel_rfl
  body := by kernel_rfl
  res := by kernel_rfl
  ok := by kernel_rfl
  arity := fun _ => Nat.le_of_ble_eq_true (by kernel_rfl)
  pin := fun _ => by kernel_rfl
  chk := by kernel_rfl
  loops := o_math_bits_OnesCount64
  run := e_math_bits_OnesCount64
  F := fun _ => rfl
  emb := fun _ => rfl
theorem fd_math_bits_OnesCount64 : FDok prog (188, D_math_bits_OnesCount64) := fn_ok mixed (env_ok (fun _ h => absurd h List.not_mem_nil)) tabOK ok_math_bits_OnesCount64
theorem e_math_bits_OnesCount : ∀ x : D_math_bits_OnesCount.T, ((acode E_math_bits_OnesCount tt Z_math_bits_OnesCount (orcOf O_math_bits_OnesCount) C_math_bits_OnesCount (entry A_math_bits_OnesCount I_math_bits_OnesCount x)).map (keepRet tt K_math_bits_OnesCount)).ev = ((T_math_bits_OnesCount x.1.1).map fun r => some ((((r, ()), ())) : K_math_bits_OnesCount.T)).ev := fun _ => by kernel_rfl
theorem o_math_bits_OnesCount : LoopsOK E_math_bits_OnesCount tt Z_math_bits_OnesCount O_math_bits_OnesCount C_math_bits_OnesCount := by
  have h : loopsOf C_math_bits_OnesCount = [] := by kernel_rfl
  unfold LoopsOK
  rw [h]
  exact fun _ h => absurd h List.not_mem_nil
theorem ok_math_bits_OnesCount : FnOK prog E_math_bits_OnesCount tt 147 D_math_bits_OnesCount K_math_bits_OnesCount Z_math_bits_OnesCount O_math_bits_OnesCount f147 C_math_bits_OnesCount (fun x => T_math_bits_OnesCount x.1.1) (fun r => ((r, ()), ())) where
  at_ := func147
  name := by kernel_rfl
  body := by kernel_rfl
  res := by kernel_rfl
  ok := by kernel_rfl
  arity := fun _ => Nat.le_of_ble_eq_true (by kernel_rfl)
  pin := fun _ => by kernel_rfl
  chk := by kernel_rfl
  loops := o_math_bits_OnesCount
  run := e_math_bits_OnesCount
  F := fun _ => rfl
  emb := fun _ => rfl
theorem fd_math_bits_OnesCount : FDok prog (147, D_math_bits_OnesCount) := fn_ok mixed (env_ok (List.forall_mem_cons.2 ⟨fd_math_bits_OnesCount64, fun _ h => absurd h List.not_mem_nil⟩)) tabOK ok_math_bits_OnesCount
theorem e_im_bag_size : ∀ x : D_im_bag_size.T, ((acode E_im_bag_size tt Z_im_bag_size (orcOf O_im_bag_size) C_im_bag_size (entry A_im_bag_size I_im_bag_size x)).map (keepRet tt K_im_bag_size)).ev = ((T_im_bag_size x.1.1).map fun r => some ((((r, ()), ())) : K_im_bag_size.T)).ev := fun _ => by kernel_rfl
theorem o_im_bag_size : LoopsOK E_im_bag_size tt Z_im_bag_size O_im_bag_size C_im_bag_size := by
  have h : loopsOf C_im_bag_size = [] := by kernel_rfl
  unfold LoopsOK
  rw [h]
  exact fun _ h => absurd h List.not_mem_nil
theorem ok_im_bag_size : FnOK prog E_im_bag_size tt 91 D_im_bag_size K_im_bag_size Z_im_bag_size O_im_bag_size f91 C_im_bag_size (fun x => T_im_bag_size x.1.1) (fun r => ((r, ()), ())) where
  at_ := func91
  name := by kernel_rfl
  body := by kernel_rfl
  res := by kernel_rfl
  ok := by kernel_rfl
  arity := fun _ => Nat.le_of_ble_eq_true (by kernel_rfl)
  pin := fun _ => by kernel_rfl
  chk := by kernel_rfl
  loops := o_im_bag_size
  run := e_im_bag_size
  F := fun _ => rfl
  emb := fun _ => rfl
theorem fd_im_bag_size : FDok prog (91, D_im_bag_size) := fn_ok mixed (env_ok (List.forall_mem_cons.2 ⟨fd_math_bits_OnesCount, fun _ h => absurd h List.not_mem_nil⟩)) tabOK ok_im_bag_size
theorem fd_slices_Clone_Sint_int : FDok prog (92, D_slices_Clone_Sint_int) := hand_clone
theorem e_im_BestHubs_1 (rec_ : (Int) → (Int) → (List (Int)) → (List (List (Int))) → Option ((Int) × ((Int) × ((List (Int)) × (List (List (Int))))))) : ∀ x : (Dr_im_BestHubs_1 rec_).T, ((acode (E_im_BestHubs_1 rec_) tt Z_im_BestHubs_1 (orcOf (O_im_BestHubs_1 rec_)) C_im_BestHubs_1 (entry A_im_BestHubs_1 I_im_BestHubs_1 x)).map (keepRet tt K_im_BestHubs_1)).ev = ((T_im_BestHubs_1 rec_ x.2.2.1.1 x.2.2.2.1.1 x.2.2.2.2.2.2.1 x.2.2.2.2.2.2.2.1).map fun r => some ((((), (((), ()), ((r.1, ()), ((r.2.1, ()), (((), ()), ((((), ((), ((), ((), ((), ()))))), ()), (r.2.2.1, (r.2.2.2, ()))))))))) : K_im_BestHubs_1.T)).ev := fun _ => by kernel_rfl
noncomputable def B_im_BestHubs_1_0 : Code := ((loopsOf C_im_BestHubs_1).find? fun p => Nat.beq p.1 0).elim .skip (·.2)
theorem l_im_BestHubs_1_0 (rec_ : (Int) → (Int) → (List (Int)) → (List (List (Int))) → Option ((Int) × ((Int) × ((List (Int)) × (List (List (Int))))))) : (DL_im_BestHubs_1_0 rec_).OK (E_im_BestHubs_1 rec_) tt Z_im_BestHubs_1 (orcOf (O_im_BestHubs_1 rec_)) B_im_BestHubs_1_0 where
  ok := by kernel_rfl
  oke := by kernel_rfl
  okr := by kernel_rfl
  eta := fun _ => rfl
  step := fun _ _ => by kernel_rfl
theorem o_im_BestHubs_1 (rec_ : (Int) → (Int) → (List (Int)) → (List (List (Int))) → Option ((Int) × ((Int) × ((List (Int)) × (List (List (Int))))))) : LoopsOK (E_im_BestHubs_1 rec_) tt Z_im_BestHubs_1 (O_im_BestHubs_1 rec_) C_im_BestHubs_1 := by
  have h : loopsOf C_im_BestHubs_1 = [(0, B_im_BestHubs_1_0)] := by kernel_rfl
  unfold LoopsOK
  rw [h]
  exact List.forall_mem_cons.2 ⟨fun d h => (by have e : some (DL_im_BestHubs_1_0 rec_) = some d := h; cases e; exact l_im_BestHubs_1_0 rec_), fun _ h => absurd h List.not_mem_nil⟩
theorem ok_im_BestHubs_1 (n : Nat) : FnOK prog (E_im_BestHubs_1 (F_im_BestHubs_1 n)) tt 88 (D_im_BestHubs_1 (n + 1)) K_im_BestHubs_1 Z_im_BestHubs_1 (O_im_BestHubs_1 (F_im_BestHubs_1 n)) f88 C_im_BestHubs_1 (fun x => T_im_BestHubs_1 (F_im_BestHubs_1 n) x.2.2.1.1 x.2.2.2.1.1 x.2.2.2.2.2.2.1 x.2.2.2.2.2.2.2.1) (fun r => ((), (((), ()), ((r.1, ()), ((r.2.1, ()), (((), ()), ((((), ((), ((), ((), ((), ()))))), ()), (r.2.2.1, (r.2.2.2, ()))))))))) where
  at_ := func88
  name := by kernel_rfl
  body := by kernel_rfl
  res := by kernel_rfl
  ok := by kernel_rfl
  arity := fun _ => Nat.le_of_ble_eq_true (by kernel_rfl)
  pin := fun _ => by kernel_rfl
  chk := by kernel_rfl
  loops := o_im_BestHubs_1 (F_im_BestHubs_1 n)
  run := e_im_BestHubs_1 (F_im_BestHubs_1 n)
  F := fun _ => rfl
  emb := fun _ => rfl
theorem fd_im_BestHubs_1 : ∀ n : Nat, FDok prog (88, D_im_BestHubs_1 n)
  | 0 => fun _ _ h => nomatch h
  | n + 1 => fn_ok mixed (env_ok (List.forall_mem_cons.2 ⟨fd_im_isAllocation, List.forall_mem_cons.2 ⟨fd_im_bagOf, List.forall_mem_cons.2 ⟨fd_im_bag_size, List.forall_mem_cons.2 ⟨fd_slices_Clone_Sint_int, List.forall_mem_cons.2 ⟨fd_im_BestHubs_1 n, fun _ h => absurd h List.not_mem_nil⟩⟩⟩⟩⟩)) tabOK (ok_im_BestHubs_1 n)
theorem e_im_least : ∀ x : D_im_least.T, ((acode E_im_least tt Z_im_least (orcOf O_im_least) C_im_least (entry A_im_least I_im_least x)).map (keepRet tt K_im_least)).ev = ((T_im_least x.1.2.1 x.2.1).map fun r => some (((((), ()), (r, ()))) : K_im_least.T)).ev := fun _ => by kernel_rfl
noncomputable def B_im_least_0 : Code := ((loopsOf C_im_least).find? fun p => Nat.beq p.1 0).elim .skip (·.2)
theorem l_im_least_0 : (DL_im_least_0).OK E_im_least tt Z_im_least (orcOf O_im_least) B_im_least_0 where
  ok := by kernel_rfl
  oke := by kernel_rfl
  okr := by kernel_rfl
  eta := fun _ => rfl
  step := fun _ _ => by kernel_rfl
theorem o_im_least : LoopsOK E_im_least tt Z_im_least O_im_least C_im_least := by
  have h : loopsOf C_im_least = [(0, B_im_least_0)] := by kernel_rfl
  unfold LoopsOK
  rw [h]
  exact List.forall_mem_cons.2 ⟨fun d h => (by have e : some (DL_im_least_0) = some d := h; cases e; exact l_im_least_0), fun _ h => absurd h List.not_mem_nil⟩
theorem ok_im_least : FnOK prog E_im_least tt 68 D_im_least K_im_least Z_im_least O_im_least f68 C_im_least (fun x => T_im_least x.1.2.1 x.2.1) (fun r => (((), ()), (r, ()))) where
  at_ := func68
  name := by kernel_rfl
  body := by kernel_rfl
  res := by kernel_rfl
  ok := by kernel_rfl
  arity := fun _ => Nat.le_of_ble_eq_true (by kernel_rfl)
  pin := fun _ => by kernel_rfl
  chk := by kernel_rfl
  loops := o_im_least
  run := e_im_least
  F := fun _ => rfl
  emb := fun _ => rfl
theorem fd_im_least : FDok prog (68, D_im_least) := fn_ok mixed (env_ok (fun _ h => absurd h List.not_mem_nil)) tabOK ok_im_least
theorem e_im_hubCost : ∀ x : D_im_hubCost.T, ((acode E_im_hubCost tt Z_im_hubCost (orcOf O_im_hubCost) C_im_hubCost (entry A_im_hubCost I_im_hubCost x)).map (keepRet tt K_im_hubCost)).ev = ((T_im_hubCost x.1.1 x.1.2.1 x.1.2.2.1 x.1.2.2.2.1).map fun r => some ((((r, ()), ())) : K_im_hubCost.T)).ev := fun _ => by kernel_rfl
noncomputable def B_im_hubCost_2 : Code := ((loopsOf C_im_hubCost).find? fun p => Nat.beq p.1 2).elim .skip (·.2)
theorem l_im_hubCost_2 : (DL_im_hubCost_2).OK E_im_hubCost tt Z_im_hubCost (orcOf O_im_hubCost) B_im_hubCost_2 where
  ok := by kernel_rfl
  oke := by kernel_rfl
  okr := by kernel_rfl
  eta := fun _ => rfl
  step := fun _ _ => by kernel_rfl
noncomputable def B_im_hubCost_0 : Code := ((loopsOf C_im_hubCost).find? fun p => Nat.beq p.1 0).elim .skip (·.2)
theorem l_im_hubCost_0 : (DL_im_hubCost_0).OK E_im_hubCost tt Z_im_hubCost (orcOf O_im_hubCost) B_im_hubCost_0 where
  ok := by kernel_rfl
  oke := by kernel_rfl
  okr := by kernel_rfl
  eta := fun _ => rfl
  step := fun _ _ => by kernel_rfl
theorem o_im_hubCost : LoopsOK E_im_hubCost tt Z_im_hubCost O_im_hubCost C_im_hubCost := by
  have h : loopsOf C_im_hubCost = [(0, B_im_hubCost_0), (2, B_im_hubCost_2)] := by kernel_rfl
  unfold LoopsOK
  rw [h]
  exact List.forall_mem_cons.2 ⟨fun d h => (by have e : some (DL_im_hubCost_0) = some d := h; cases e; exact l_im_hubCost_0), List.forall_mem_cons.2 ⟨fun d h => (by have e : some (DL_im_hubCost_2) = some d := h; cases e; exact l_im_hubCost_2), fun _ h => absurd h List.not_mem_nil⟩⟩
theorem ok_im_hubCost : FnOK prog E_im_hubCost tt 94 D_im_hubCost K_im_hubCost Z_im_hubCost O_im_hubCost f94 C_im_hubCost (fun x => T_im_hubCost x.1.1 x.1.2.1 x.1.2.2.1 x.1.2.2.2.1) (fun r => ((r, ()), ())) where
  at_ := func94
  name := by kernel_rfl
  body := by kernel_rfl
  res := by kernel_rfl
  ok := by kernel_rfl
  arity := fun _ => Nat.le_of_ble_eq_true (by kernel_rfl)
  pin := fun _ => by kernel_rfl
  chk := by kernel_rfl
  loops := o_im_hubCost
  run := e_im_hubCost
  F := fun _ => rfl
  emb := fun _ => rfl
theorem fd_im_hubCost : FDok prog (94, D_im_hubCost) := fn_ok mixed (env_ok (fun _ h => absurd h List.not_mem_nil)) tabOK ok_im_hubCost
theorem e_im_BestHubs_2 : ∀ x : D_im_BestHubs_2.T, ((acode E_im_BestHubs_2 tt Z_im_BestHubs_2 (orcOf O_im_BestHubs_2) C_im_BestHubs_2 (entry A_im_BestHubs_2 I_im_BestHubs_2 x)).map (keepRet tt K_im_BestHubs_2)).ev = ((T_im_BestHubs_2 x.1.1 x.1.2.1.1 x.1.2.2.1.1 x.1.2.2.2.1.1).map fun r => some ((((r, ()), ())) : K_im_BestHubs_2.T)).ev := fun _ => by kernel_rfl
theorem o_im_BestHubs_2 : LoopsOK E_im_BestHubs_2 tt Z_im_BestHubs_2 O_im_BestHubs_2 C_im_BestHubs_2 := by
  have h : loopsOf C_im_BestHubs_2 = [] := by kernel_rfl
  unfold LoopsOK
  rw [h]
  exact fun _ h => absurd h List.not_mem_nil
theorem ok_im_BestHubs_2 : FnOK prog E_im_BestHubs_2 tt 93 D_im_BestHubs_2 K_im_BestHubs_2 Z_im_BestHubs_2 O_im_BestHubs_2 f93 C_im_BestHubs_2 (fun x => T_im_BestHubs_2 x.1.1 x.1.2.1.1 x.1.2.2.1.1 x.1.2.2.2.1.1) (fun r => ((r, ()), ())) where
  at_ := func93
  name := by kernel_rfl
  body := by kernel_rfl
  res := by kernel_rfl
  ok := by kernel_rfl
  arity := fun _ => Nat.le_of_ble_eq_true (by kernel_rfl)
  pin := fun _ => by kernel_rfl
  chk := by kernel_rfl
  loops := o_im_BestHubs_2
  run := e_im_BestHubs_2
  F := fun _ => rfl
  emb := fun _ => rfl
theorem fd_im_BestHubs_2 : FDok prog (93, D_im_BestHubs_2) := fn_ok mixed (env_ok (List.forall_mem_cons.2 ⟨fd_im_hubCost, fun _ h => absurd h List.not_mem_nil⟩)) tabOK ok_im_BestHubs_2
theorem e_im_BestHubs : ∀ x : D_im_BestHubs.T, ((acode E_im_BestHubs tt Z_im_BestHubs (orcOf O_im_BestHubs) C_im_BestHubs (entry A_im_BestHubs I_im_BestHubs x)).map (keepRet tt K_im_BestHubs)).ev = ((T_im_BestHubs x.1.1 x.1.2.1 x.1.2.2.1 x.1.2.2.2.1).map fun r => some (((((), (r.1, ())), (r.2, ()))) : K_im_BestHubs.T)).ev := fun _ => by kernel_rfl
theorem o_im_BestHubs : LoopsOK E_im_BestHubs tt Z_im_BestHubs O_im_BestHubs C_im_BestHubs := by
  have h : loopsOf C_im_BestHubs = [] := by kernel_rfl
  unfold LoopsOK
  rw [h]
  exact fun _ h => absurd h List.not_mem_nil
theorem ok_im_BestHubs : FnOK prog E_im_BestHubs tt 31 D_im_BestHubs K_im_BestHubs Z_im_BestHubs O_im_BestHubs f31 C_im_BestHubs (fun x => T_im_BestHubs x.1.1 x.1.2.1 x.1.2.2.1 x.1.2.2.2.1) (fun r => (((), (r.1, ())), (r.2, ()))) where
  at_ := func31
  name := by kernel_rfl
  body := by kernel_rfl
  res := by kernel_rfl
  ok := by kernel_rfl
  arity := fun _ => Nat.le_of_ble_eq_true (by kernel_rfl)
  pin := fun _ => by kernel_rfl
  chk := by kernel_rfl
  loops := o_im_BestHubs
  run := e_im_BestHubs
  F := fun _ => rfl
  emb := fun _ => rfl
theorem fd_im_BestHubs : FDok prog (31, D_im_BestHubs) := fn_ok mixed (env_ok (List.forall_mem_cons.2 ⟨fd_im_isNet, List.forall_mem_cons.2 ⟨fd_im_areFlows, List.forall_mem_cons.2 ⟨fd_im_between, List.forall_mem_cons.2 ⟨fd_im_BestHubs_1 1000000, List.forall_mem_cons.2 ⟨fd_im_least, List.forall_mem_cons.2 ⟨fd_im_least, List.forall_mem_cons.2 ⟨fd_im_BestHubs_2, fun _ h => absurd h List.not_mem_nil⟩⟩⟩⟩⟩⟩⟩)) tabOK ok_im_BestHubs
theorem e_lw_eqIntS : ∀ x : D_lw_eqIntS.T, ((acode E_lw_eqIntS tt Z_lw_eqIntS (orcOf O_lw_eqIntS) C_lw_eqIntS (entry A_lw_eqIntS I_lw_eqIntS x)).map (keepRet tt K_lw_eqIntS)).ev = ((T_lw_eqIntS x.1.1 x.1.2.1).map fun r => some ((((r, ()), ())) : K_lw_eqIntS.T)).ev := fun _ => by kernel_rfl
noncomputable def B_lw_eqIntS_0 : Code := ((loopsOf C_lw_eqIntS).find? fun p => Nat.beq p.1 0).elim .skip (·.2)
theorem l_lw_eqIntS_0 : (DL_lw_eqIntS_0).OK E_lw_eqIntS tt Z_lw_eqIntS (orcOf O_lw_eqIntS) B_lw_eqIntS_0 where
  ok := by kernel_rfl
  oke := by kernel_rfl
  okr := by kernel_rfl
  eta := fun _ => rfl
  step := fun _ _ => by kernel_rfl
theorem o_lw_eqIntS : LoopsOK E_lw_eqIntS tt Z_lw_eqIntS O_lw_eqIntS C_lw_eqIntS := by
  have h : loopsOf C_lw_eqIntS = [(0, B_lw_eqIntS_0)] := by kernel_rfl
  unfold LoopsOK
  rw [h]
  exact List.forall_mem_cons.2 ⟨fun d h => (by have e : some (DL_lw_eqIntS_0) = some d := h; cases e; exact l_lw_eqIntS_0), fun _ h => absurd h List.not_mem_nil⟩
theorem ok_lw_eqIntS : FnOK prog E_lw_eqIntS tt 16 D_lw_eqIntS K_lw_eqIntS Z_lw_eqIntS O_lw_eqIntS f16 C_lw_eqIntS (fun x => T_lw_eqIntS x.1.1 x.1.2.1) (fun r => ((r, ()), ())) where
  at_ := func16
  name := by kernel_rfl
  body := by kernel_rfl
  res := by kernel_rfl
  ok := by kernel_rfl
  arity := fun _ => Nat.le_of_ble_eq_true (by kernel_rfl)
  pin := fun _ => by kernel_rfl
  chk := by kernel_rfl
  loops := o_lw_eqIntS
  run := e_lw_eqIntS
  F := fun _ => rfl
  emb := fun _ => rfl
theorem fd_lw_eqIntS : FDok prog (16, D_lw_eqIntS) := fn_ok mixed (env_ok (fun _ h => absurd h List.not_mem_nil)) tabOK ok_lw_eqIntS
theorem e_lw_eqIntSS : ∀ x : D_lw_eqIntSS.T, ((acode E_lw_eqIntSS tt Z_lw_eqIntSS (orcOf O_lw_eqIntSS) C_lw_eqIntSS (entry A_lw_eqIntSS I_lw_eqIntSS x)).map (keepRet tt K_lw_eqIntSS)).ev = ((T_lw_eqIntSS x.1.1 x.1.2.1).map fun r => some ((((r, ()), ())) : K_lw_eqIntSS.T)).ev := fun _ => by kernel_rfl
noncomputable def B_lw_eqIntSS_0 : Code := ((loopsOf C_lw_eqIntSS).find? fun p => Nat.beq p.1 0).elim .skip (·.2)
theorem l_lw_eqIntSS_0 : (DL_lw_eqIntSS_0).OK E_lw_eqIntSS tt Z_lw_eqIntSS (orcOf O_lw_eqIntSS) B_lw_eqIntSS_0 where
  ok := by kernel_rfl
  oke := by kernel_rfl
  okr := by kernel_rfl
  eta := fun _ => rfl
  step := fun _ _ => by kernel_rfl
theorem o_lw_eqIntSS : LoopsOK E_lw_eqIntSS tt Z_lw_eqIntSS O_lw_eqIntSS C_lw_eqIntSS := by
  have h : loopsOf C_lw_eqIntSS = [(0, B_lw_eqIntSS_0)] := by kernel_rfl
  unfold LoopsOK
  rw [h]
  exact List.forall_mem_cons.2 ⟨fun d h => (by have e : some (DL_lw_eqIntSS_0) = some d := h; cases e; exact l_lw_eqIntSS_0), fun _ h => absurd h List.not_mem_nil⟩
theorem ok_lw_eqIntSS : FnOK prog E_lw_eqIntSS tt 17 D_lw_eqIntSS K_lw_eqIntSS Z_lw_eqIntSS O_lw_eqIntSS f17 C_lw_eqIntSS (fun x => T_lw_eqIntSS x.1.1 x.1.2.1) (fun r => ((r, ()), ())) where
  at_ := func17
  name := by kernel_rfl
  body := by kernel_rfl
  res := by kernel_rfl
  ok := by kernel_rfl
  arity := fun _ => Nat.le_of_ble_eq_true (by kernel_rfl)
  pin := fun _ => by kernel_rfl
  chk := by kernel_rfl
  loops := o_lw_eqIntSS
  run := e_lw_eqIntSS
  F := fun _ => rfl
  emb := fun _ => rfl
theorem fd_lw_eqIntSS : FDok prog (17, D_lw_eqIntSS) := fn_ok mixed (env_ok (List.forall_mem_cons.2 ⟨fd_lw_eqIntS, fun _ h => absurd h List.not_mem_nil⟩)) tabOK ok_lw_eqIntSS
theorem e_lw_markIntS : ∀ x : D_lw_markIntS.T, ((acode E_lw_markIntS tt Z_lw_markIntS (orcOf O_lw_markIntS) C_lw_markIntS (entry A_lw_markIntS I_lw_markIntS x)).map (keepRet tt K_lw_markIntS)).ev = ((T_lw_markIntS x.1.2.1 x.2.1).map fun r => some ((((r.1, ()), (r.2, ()))) : K_lw_markIntS.T)).ev := fun _ => by kernel_rfl
noncomputable def B_lw_markIntS_0 : Code := ((loopsOf C_lw_markIntS).find? fun p => Nat.beq p.1 0).elim .skip (·.2)
theorem l_lw_markIntS_0 : (DL_lw_markIntS_0).OK E_lw_markIntS tt Z_lw_markIntS (orcOf O_lw_markIntS) B_lw_markIntS_0 where
  ok := by kernel_rfl
  oke := by kernel_rfl
  okr := by kernel_rfl
  eta := fun _ => rfl
  step := fun _ _ => by kernel_rfl
theorem o_lw_markIntS : LoopsOK E_lw_markIntS tt Z_lw_markIntS O_lw_markIntS C_lw_markIntS := by
  have h : loopsOf C_lw_markIntS = [(0, B_lw_markIntS_0)] := by kernel_rfl
  unfold LoopsOK
  rw [h]
  exact List.forall_mem_cons.2 ⟨fun d h => (by have e : some (DL_lw_markIntS_0) = some d := h; cases e; exact l_lw_markIntS_0), fun _ h => absurd h List.not_mem_nil⟩
theorem ok_lw_markIntS : FnOK prog E_lw_markIntS tt 19 D_lw_markIntS K_lw_markIntS Z_lw_markIntS O_lw_markIntS f19 C_lw_markIntS (fun x => T_lw_markIntS x.1.2.1 x.2.1) (fun r => ((r.1, ()), (r.2, ()))) where
  at_ := func19
  name := by kernel_rfl
  body := by kernel_rfl
  res := by kernel_rfl
  ok := by kernel_rfl
  arity := fun _ => Nat.le_of_ble_eq_true (by kernel_rfl)
  pin := fun _ => by kernel_rfl
  chk := by kernel_rfl
  loops := o_lw_markIntS
  run := e_lw_markIntS
  F := fun _ => rfl
  emb := fun _ => rfl
theorem fd_lw_markIntS : FDok prog (19, D_lw_markIntS) := fn_ok mixed (env_ok (fun _ h => absurd h List.not_mem_nil)) tabOK ok_lw_markIntS
theorem e_lw_markIntSS : ∀ x : D_lw_markIntSS.T, ((acode E_lw_markIntSS tt Z_lw_markIntSS (orcOf O_lw_markIntSS) C_lw_markIntSS (entry A_lw_markIntSS I_lw_markIntSS x)).map (keepRet tt K_lw_markIntSS)).ev = ((T_lw_markIntSS x.1.2.1 x.2.1).map fun r => some ((((r.1, ()), (r.2, ()))) : K_lw_markIntSS.T)).ev := fun _ => by kernel_rfl
noncomputable def B_lw_markIntSS_0 : Code := ((loopsOf C_lw_markIntSS).find? fun p => Nat.beq p.1 0).elim .skip (·.2)
theorem l_lw_markIntSS_0 : (DL_lw_markIntSS_0).OK E_lw_markIntSS tt Z_lw_markIntSS (orcOf O_lw_markIntSS) B_lw_markIntSS_0 where
  ok := by kernel_rfl
  oke := by kernel_rfl
  okr := by kernel_rfl
  eta := fun _ => rfl
  step := fun _ _ => by kernel_rfl
theorem o_lw_markIntSS : LoopsOK E_lw_markIntSS tt Z_lw_markIntSS O_lw_markIntSS C_lw_markIntSS := by
  have h : loopsOf C_lw_markIntSS = [(0, B_lw_markIntSS_0)] := by kernel_rfl
  unfold LoopsOK
  rw [h]
  exact List.forall_mem_cons.2 ⟨fun d h => (by have e : some (DL_lw_markIntSS_0) = some d := h; cases e; exact l_lw_markIntSS_0), fun _ h => absurd h List.not_mem_nil⟩
theorem ok_lw_markIntSS : FnOK prog E_lw_markIntSS tt 18 D_lw_markIntSS K_lw_markIntSS Z_lw_markIntSS O_lw_markIntSS f18 C_lw_markIntSS (fun x => T_lw_markIntSS x.1.2.1 x.2.1) (fun r => ((r.1, ()), (r.2, ()))) where
  at_ := func18
  name := by kernel_rfl
  body := by kernel_rfl
  res := by kernel_rfl
  ok := by kernel_rfl
  arity := fun _ => Nat.le_of_ble_eq_true (by kernel_rfl)
  pin := fun _ => by kernel_rfl
  chk := by kernel_rfl
  loops := o_lw_markIntSS
  run := e_lw_markIntSS
  F := fun _ => rfl
  emb := fun _ => rfl
theorem fd_lw_markIntSS : FDok prog (18, D_lw_markIntSS) := fn_ok mixed (env_ok (List.forall_mem_cons.2 ⟨fd_lw_markIntS, fun _ h => absurd h List.not_mem_nil⟩)) tabOK ok_lw_markIntSS
theorem e_lw_heldIntS : ∀ x : D_lw_heldIntS.T, ((acode E_lw_heldIntS tt Z_lw_heldIntS (orcOf O_lw_heldIntS) C_lw_heldIntS (entry A_lw_heldIntS I_lw_heldIntS x)).map (keepRet tt K_lw_heldIntS)).ev = ((T_lw_heldIntS x.1.1 x.1.2.1).map fun r => some ((((r, ()), ())) : K_lw_heldIntS.T)).ev := fun _ => by kernel_rfl
noncomputable def B_lw_heldIntS_0 : Code := ((loopsOf C_lw_heldIntS).find? fun p => Nat.beq p.1 0).elim .skip (·.2)
theorem l_lw_heldIntS_0 : (DL_lw_heldIntS_0).OK E_lw_heldIntS tt Z_lw_heldIntS (orcOf O_lw_heldIntS) B_lw_heldIntS_0 where
  ok := by kernel_rfl
  oke := by kernel_rfl
  okr := by kernel_rfl
  eta := fun _ => rfl
  step := fun _ _ => by kernel_rfl
theorem o_lw_heldIntS : LoopsOK E_lw_heldIntS tt Z_lw_heldIntS O_lw_heldIntS C_lw_heldIntS := by
  have h : loopsOf C_lw_heldIntS = [(0, B_lw_heldIntS_0)] := by kernel_rfl
  unfold LoopsOK
  rw [h]
  exact List.forall_mem_cons.2 ⟨fun d h => (by have e : some (DL_lw_heldIntS_0) = some d := h; cases e; exact l_lw_heldIntS_0), fun _ h => absurd h List.not_mem_nil⟩
theorem ok_lw_heldIntS : FnOK prog E_lw_heldIntS tt 20 D_lw_heldIntS K_lw_heldIntS Z_lw_heldIntS O_lw_heldIntS f20 C_lw_heldIntS (fun x => T_lw_heldIntS x.1.1 x.1.2.1) (fun r => ((r, ()), ())) where
  at_ := func20
  name := by kernel_rfl
  body := by kernel_rfl
  res := by kernel_rfl
  ok := by kernel_rfl
  arity := fun _ => Nat.le_of_ble_eq_true (by kernel_rfl)
  pin := fun _ => by kernel_rfl
  chk := by kernel_rfl
  loops := o_lw_heldIntS
  run := e_lw_heldIntS
  F := fun _ => rfl
  emb := fun _ => rfl
theorem fd_lw_heldIntS : FDok prog (20, D_lw_heldIntS) := fn_ok mixed (env_ok (fun _ h => absurd h List.not_mem_nil)) tabOK ok_lw_heldIntS
theorem e_lw_FnExactBestHubs : ∀ x : D_lw_FnExactBestHubs.T, ((acode E_lw_FnExactBestHubs tt Z_lw_FnExactBestHubs (orcOf O_lw_FnExactBestHubs) C_lw_FnExactBestHubs (entry A_lw_FnExactBestHubs I_lw_FnExactBestHubs x)).map (keepRet tt K_lw_FnExactBestHubs)).ev = ((T_lw_FnExactBestHubs x.1.1 x.1.2.1 x.1.2.2.1 x.1.2.2.2.1).map fun r => some ((((r, ()), ())) : K_lw_FnExactBestHubs.T)).ev := fun _ => by kernel_rfl
theorem o_lw_FnExactBestHubs : LoopsOK E_lw_FnExactBestHubs tt Z_lw_FnExactBestHubs O_lw_FnExactBestHubs C_lw_FnExactBestHubs := by
  have h : loopsOf C_lw_FnExactBestHubs = [] := by kernel_rfl
  unfold LoopsOK
  rw [h]
  exact fun _ h => absurd h List.not_mem_nil
theorem ok_lw_FnExactBestHubs : FnOK prog E_lw_FnExactBestHubs tt 6 D_lw_FnExactBestHubs K_lw_FnExactBestHubs Z_lw_FnExactBestHubs O_lw_FnExactBestHubs f6 C_lw_FnExactBestHubs (fun x => T_lw_FnExactBestHubs x.1.1 x.1.2.1 x.1.2.2.1 x.1.2.2.2.1) (fun r => ((r, ()), ())) where
  at_ := func6
  name := by kernel_rfl
  body := by kernel_rfl
  res := by kernel_rfl
  ok := by kernel_rfl
  arity := fun _ => Nat.le_of_ble_eq_true (by kernel_rfl)
  pin := fun _ => by kernel_rfl
  chk := by kernel_rfl
  loops := o_lw_FnExactBestHubs
  run := e_lw_FnExactBestHubs
  F := fun _ => rfl
  emb := fun _ => rfl
theorem fd_lw_FnExactBestHubs : FDok prog (6, D_lw_FnExactBestHubs) := fn_ok mixed (env_ok (List.forall_mem_cons.2 ⟨fd_lw_szIntSS, List.forall_mem_cons.2 ⟨fd_lw_toIntSS, List.forall_mem_cons.2 ⟨fd_sp_BestHubs, List.forall_mem_cons.2 ⟨fd_im_BestHubs, List.forall_mem_cons.2 ⟨fd_lw_eqIntS, List.forall_mem_cons.2 ⟨fd_lw_eqIntSS, List.forall_mem_cons.2 ⟨fd_lw_markIntSS, List.forall_mem_cons.2 ⟨fd_lw_markIntS, List.forall_mem_cons.2 ⟨fd_lw_heldIntS, fun _ h => absurd h List.not_mem_nil⟩⟩⟩⟩⟩⟩⟩⟩⟩)) tabOK ok_lw_FnExactBestHubs
end Go.Proofs.Ytlemejhffpkbkaa
